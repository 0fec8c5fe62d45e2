/- Functions: their bodies, and how a proved contract is used at a call. -/
import Derived.Test.YtnonimnhninafaaAbWalk
namespace Go.Proofs.Ytnonimnhninafaa.Ab
open Go
set_option linter.unusedVariables false
set_option linter.unusedSimpArgs false

def hemp : Heap := fun _ => (0, .dead)

/-- What a result variable holds. -/
def resT (Θ : Tab) (s : St) : ResultVar → Option Tr
  | .tmp t => some (s.T t)
  | .cell a t => aLoad Θ s.H t (s.T a)

def resL (Θ : Tab) (s : St) : List ResultVar → Option (List Tr)
  | [] => some []
  | r :: rs => match resT Θ s r, resL Θ s rs with
    | some x, some xs => some (x :: xs)
    | _, _ => none

def retOf : List Tr → Tr
  | [x] => x
  | xs => .tup xs

/-- The post of a body: what the function hands back. -/
def retK (Θ : Tab) (rs : List ResultVar) (R : Tr → Heap → Prop) (e : Exit) (s : St) : Prop :=
  match e with
  | .normal => ∃ xs, resL Θ s rs = some xs ∧ R (retOf xs) s.H
  | .ret => ∃ xs, resL Θ s rs = some xs ∧ R (retOf xs) s.H
  | _ => False

def argT (args : List Tr) (t : Nat) : Tr := args.getD t .any

/-- A result variable's value, in the model. -/
def resVal (tmps : Array Value) : ResultVar → Sem Value
  | .tmp t => pure (tmps.getD t undef)
  | .cell a t => do loadVar t (← asAddr (tmps.getD a undef))

def retVal : List Value → Value
  | [v] => v
  | vs => .tuple vs.toArray

theorem results_run {P : Program} {fn : Func} {tmps : Array Value} {w : World} {vs : List Value} (h : (fn.results.toList.mapM (resVal tmps)).run P w = .ok vs w) : (results fn tmps).run P w = .ok (retVal vs) w := by
  have hf : (fun r : ResultVar => (match r with
      | .tmp t => pure (tmps.getD t undef)
      | .cell a t => do loadVar t (← asAddr (tmps.getD a undef)) : Sem Value)) = resVal tmps := by
    funext r; cases r <;> rfl
  have e : results fn tmps = (do
      let vs ← fn.results.mapM (resVal tmps)
      pure (if h : vs.size = 1 then vs[0] else .tuple vs)) := by
    rw [← hf]; rfl
  rw [e]
  simp only [Sem.run_bind, Array.mapM_eq_mapM_toList, Sem.run_map, h, Result.andThen_ok, Sem.run_pure]
  congr 1
  match vs with
  | [] => rfl
  | [v] => rfl
  | _ :: _ :: _ => rfl

section
variable {P : Program} {Θ : Tab} (hΘ : TabOK P Θ)

include hΘ in
theorem res_run {s : St} {M0 M : Mem} {nt : Nat} {a : Act} (g : Gam M0 nt s M a) : ∀ (rs : List ResultVar) (xs : List Tr), resL Θ s rs = some xs →
    ∃ vs, (rs.mapM (resVal a.tmps)).run P M.w = .ok vs M.w ∧ vs.length = xs.length ∧ ∀ (i : Nat) x, xs[i]? = some x → VR M x (vs.getD i undef)
  | [], xs, h => by
    simp only [resL, Option.some.injEq] at h
    subst h
    exact ⟨[], by simp, rfl, by simp⟩
  | r :: rs, xs, h => by
    simp only [resL] at h
    split at h
    · rename_i x xs' hx hxs
      obtain rfl := Option.some.inj h
      obtain ⟨vs, hr, hl, hv⟩ := res_run g rs xs' hxs
      have one : ∃ v, (resVal a.tmps r).run P M.w = .ok v M.w ∧ VR M x v := by
        cases r with
        | tmp t =>
          simp only [resT, Option.some.injEq] at hx
          subst hx
          exact ⟨_, rfl, g.tm t⟩
        | cell p t =>
          simp only [resT] at hx
          rw [← g.hH] at hx
          obtain ⟨u, hu, hvu⟩ := load_sound (P := P) hΘ g.ok (g.tm p) hx
          have hat : ∃ y, aAt M.H (s.T p) = some y := by
            unfold aLoad at hx
            split at hx
            · rename_i hh; exact ⟨_, hh⟩
            · cases hx
          obtain ⟨y, hy⟩ := hat
          obtain ⟨ad, hp, _⟩ := aAt_sound g.ok (g.tm p) hy
          refine ⟨u, ?_, hvu⟩
          rw [hp] at hu
          simp only [resVal, hp]
          simpa only [Instr.loadAt, Instr.sureAddr, asAddr, Sem.run_bind, Sem.run_pure, Result.andThen_ok] using hu
      obtain ⟨v, h1, h2⟩ := one
      refine ⟨v :: vs, ?_, by simp [hl], fun i y hy => ?_⟩
      · simp only [List.mapM_cons, Sem.run_bind, h1, Result.andThen_ok, hr, Sem.run_pure]
      · cases i with
        | zero => simp at hy; subst hy; simpa using h2
        | succ i => simpa using hv i y (by simpa using hy)
    · cases h

include hΘ in
/-- A function's body, walked. -/
theorem CallSem.of_body {f : FuncId} {fn : Func} {c : Code} {args : List Tr} {H : Heap} {R : Tr → Heap → Prop} (hf : P.funcs[f]? = some fn) (hb : fn.body = some c) (hent : Enters P f) (hl : args.length ≤ fn.ntmps)
    (h : WP P fn.ntmps c (retK Θ fn.results.toList R) { T := argT args, H := H }) : CallSem P f args H R := by
  refine ⟨hent, fun M vs hH ok hs hv => calls_of_wp hf hb ?_⟩
  have g : Gam M fn.ntmps { T := argT args, H := H } M { tmps := vs ++ Array.replicate (fn.ntmps - vs.size) undef, defers := [] } := by
    refine ⟨hH, ok, Fr.refl ok, Mono.refl M, fun t => ?_, by simp; omega, rfl⟩
    simp only [argT]
    by_cases ht : t < args.length
    · have h1 : args.getD t .any = args[t] := by simp [List.getD, ht]
      rw [h1]
      have h2 := hv t _ (List.getElem?_eq_getElem ht)
      have h3 : (vs ++ Array.replicate (fn.ntmps - vs.size) undef).getD t undef = vs.getD t undef := by
        simp [Array.getD_eq_getD_getElem?, Array.getElem?_append, show t < vs.size by omega]
      rw [h3]
      exact h2
    · have h1 : args.getD t .any = .any := by simp [List.getD, List.getElem?_eq_none (Nat.le_of_not_lt ht)]
      rw [h1]
      exact .any _
  refine wp_mono (h M M _ g) ?_
  rintro e a' w' ⟨s', M', rfl, hk, g'⟩
  have fin : ∀ xs, resL Θ s' fn.results.toList = some xs → R (retOf xs) s'.H → a'.defers = [] ∧ ∃ v, (results fn a'.tmps).run P M'.w = .ok v M'.w ∧ ∃ v' r M'', Ending.returned v = .returned v' ∧ M''.w = M'.w ∧ R r M''.H ∧ MemOK M'' ∧ Fr (baseOf M) M'' ∧ Mono M M'' ∧ VR M'' r v' := by
    intro xs hxs hR
    obtain ⟨ws, hrun, hwl, hwv⟩ := res_run hΘ g' _ _ hxs
    refine ⟨g'.df, retVal ws, results_run hrun, retVal ws, retOf xs, M', rfl, rfl, by rw [g'.hH]; exact hR, g'.ok, g'.fr, g'.mono, ?_⟩
    match xs, ws, hwl with
    | [], [], _ => exact .tup (by rfl) (by intro i x h; simp at h)
    | [x], [v], _ => exact hwv 0 x rfl
    | x :: y :: xs, v :: u :: ws, hwl => exact .tup (by simpa using hwl) (fun i z hz => by have := hwv i z hz; simpa [List.getD, Array.getD_eq_getD_getElem?] using this)
  cases e with
  | normal => obtain ⟨xs, hxs, hR⟩ := hk; exact fin xs hxs hR
  | ret => obtain ⟨xs, hxs, hR⟩ := hk; exact fin xs hxs hR
  | exit id => exact hk
  | goto l => exact hk
  | panic ch => exact (show False from hk).elim
  | outgrown => exact (show False from hk).elim

end

mutual
/-- A tree that names no object of the call's own. -/
def Tr.lf : Tr → Bool
  | .ptr _ _ _ _ => false
  | .own _ _ _ _ => false
  | .any => false
  | .node _ _ xs => lfL xs
  | .arr _ xs => lfL xs
  | .sl _ xs => lfL xs
  | .tup xs => lfL xs
  | .clo _ xs => lfL xs
  | .iptr x => x.lf
  | .int _ _ => true
  | .bool _ => true
  | .str _ => true
  | .nilp => true
  | .nils => true
  | .nilf => true
def lfL : List Tr → Bool
  | [] => true
  | x :: xs => x.lf && lfL xs
end

theorem lfL_iff : ∀ xs : List Tr, lfL xs = true ↔ ∀ x ∈ xs, x.lf = true
  | [] => by simp [lfL]
  | x :: xs => by simp [lfL, lfL_iff xs]

theorem lfL_map {α : Type} (f : α → Tr) (h : ∀ a, (f a).lf = true) (xs : List α) : lfL (xs.map f) = true := (lfL_iff _).2 fun x hx => by
  obtain ⟨a, _, rfl⟩ := List.mem_map.1 hx
  exact h a

theorem lfL_append (xs ys : List Tr) : lfL (xs ++ ys) = (lfL xs && lfL ys) := by
  induction xs with
  | nil => simp [lfL]
  | cons x xs ih => simp [lfL, ih, Bool.and_assoc]

mutual
theorem lf_leaves : ∀ t : Tr, t.lf = true → ∀ l ∈ t.leaves, l.lf = true
  | .node _ _ xs, h, l, hl => lfL_leaves xs (by simpa [Tr.lf] using h) l (by simpa [Tr.leaves] using hl)
  | .arr _ xs, h, l, hl => lfL_leaves xs (by simpa [Tr.lf] using h) l (by simpa [Tr.leaves] using hl)
  | .any, h, _, _ => by simp [Tr.lf] at h
  | .int .., h, l, hl => by simp only [Tr.leaves, List.mem_singleton] at hl; subst hl; exact h
  | .bool .., h, l, hl => by simp only [Tr.leaves, List.mem_singleton] at hl; subst hl; exact h
  | .str .., h, l, hl => by simp only [Tr.leaves, List.mem_singleton] at hl; subst hl; exact h
  | .nilp, h, l, hl => by simp only [Tr.leaves, List.mem_singleton] at hl; subst hl; exact h
  | .nils, h, l, hl => by simp only [Tr.leaves, List.mem_singleton] at hl; subst hl; exact h
  | .nilf, h, l, hl => by simp only [Tr.leaves, List.mem_singleton] at hl; subst hl; exact h
  | .ptr .., h, l, hl => by simp only [Tr.leaves, List.mem_singleton] at hl; subst hl; exact h
  | .iptr .., h, l, hl => by simp only [Tr.leaves, List.mem_singleton] at hl; subst hl; exact h
  | .own .., h, l, hl => by simp only [Tr.leaves, List.mem_singleton] at hl; subst hl; exact h
  | .sl .., h, l, hl => by simp only [Tr.leaves, List.mem_singleton] at hl; subst hl; exact h
  | .tup .., h, l, hl => by simp only [Tr.leaves, List.mem_singleton] at hl; subst hl; exact h
  | .clo .., h, l, hl => by simp only [Tr.leaves, List.mem_singleton] at hl; subst hl; exact h
theorem lfL_leaves : ∀ xs : List Tr, lfL xs = true → ∀ l ∈ leavesL xs, l.lf = true
  | [], _, l, hl => by simp [leavesL] at hl
  | x :: xs, h, l, hl => by
    simp only [lfL, Bool.and_eq_true] at h
    simp only [leavesL, List.mem_append] at hl
    rcases hl with hl | hl
    · exact lf_leaves x h.1 l hl
    · exact lfL_leaves xs h.2 l hl
end

/-- What a tree without objects says hangs on the world and on what never changes alone. -/
theorem VR.lf_move {M M1 : Mem} (hw : M1.w = M.w) (hI : ∀ b, M.Im b → M1.Im b) {t : Tr} {v : Value} (h : VR M t v) (hl : t.lf = true) : VR M1 t v := by
  induction h with
  | any v => simp [Tr.lf] at hl
  | int k n => exact .int k n
  | bool b => exact .bool b
  | str s => exact .str s
  | nilp => exact .nilp
  | nils => exact .nils
  | nilf => exact .nilf
  | ptr => simp [Tr.lf] at hl
  | own => simp [Tr.lf] at hl
  | @iptr x a vs hs hI' hwf hc hv ih =>
    simp only [Tr.lf] at hl
    exact .iptr vs hs (hI _ hI') hwf (by rw [hw]; exact hc) fun i l hi => ih i l hi (lf_leaves x hl l (List.mem_of_getElem? hi))
  | @sl sz xs a cap vs hcap hnil hwf hI' hc hv ih =>
    simp only [Tr.lf] at hl
    exact .sl vs hcap hnil hwf (fun ad ha hp => ⟨(hI' ad ha hp).1, hI _ (hI' ad ha hp).2⟩) (by rw [hw]; exact hc) fun i l hi => ih i l hi (lfL_leaves xs hl l (List.mem_of_getElem? hi))
  | @agg t cs ha hwf hs hv ih => exact .agg ha hwf hs fun i l hi => ih i l hi (lf_leaves t hl l (List.mem_of_getElem? hi))
  | @tup xs vs hs hv ih =>
    simp only [Tr.lf] at hl
    exact .tup hs fun i x hi => ih i x hi ((lfL_iff xs).1 hl x (List.mem_of_getElem? hi))
  | @clo f xs vs hs hv ih =>
    simp only [Tr.lf] at hl
    exact .clo hs fun i x hi => ih i x hi ((lfL_iff xs).1 hl x (List.mem_of_getElem? hi))

mutual
/-- A tree that leads to no memory. -/
def Tr.nosl : Tr → Bool
  | .node _ _ xs => noslL xs
  | .arr _ xs => noslL xs
  | .tup xs => noslL xs
  | .clo _ xs => noslL xs
  | .int _ _ => true
  | .bool _ => true
  | .str _ => true
  | .nilp => true
  | .nils => true
  | .nilf => true
  | .sl _ _ => false
  | .iptr _ => false
  | .ptr _ _ _ _ => false
  | .own _ _ _ _ => false
  | .any => false
def noslL : List Tr → Bool
  | [] => true
  | x :: xs => x.nosl && noslL xs
end

theorem noslL_iff : ∀ xs : List Tr, noslL xs = true ↔ ∀ x ∈ xs, x.nosl = true
  | [] => by simp [noslL]
  | x :: xs => by simp [noslL, noslL_iff xs]

mutual
theorem nosl_leaves : ∀ t : Tr, t.nosl = true → ∀ l ∈ t.leaves, l.nosl = true
  | .node _ _ xs, h, l, hl => noslL_leaves xs (by simpa [Tr.nosl] using h) l (by simpa [Tr.leaves] using hl)
  | .arr _ xs, h, l, hl => noslL_leaves xs (by simpa [Tr.nosl] using h) l (by simpa [Tr.leaves] using hl)
  | .any, h, _, _ => by simp [Tr.nosl] at h
  | .int .., h, l, hl => by simp only [Tr.leaves, List.mem_singleton] at hl; subst hl; exact h
  | .bool .., h, l, hl => by simp only [Tr.leaves, List.mem_singleton] at hl; subst hl; exact h
  | .str .., h, l, hl => by simp only [Tr.leaves, List.mem_singleton] at hl; subst hl; exact h
  | .nilp, h, l, hl => by simp only [Tr.leaves, List.mem_singleton] at hl; subst hl; exact h
  | .nils, h, l, hl => by simp only [Tr.leaves, List.mem_singleton] at hl; subst hl; exact h
  | .nilf, h, l, hl => by simp only [Tr.leaves, List.mem_singleton] at hl; subst hl; exact h
  | .ptr .., h, l, hl => by simp only [Tr.leaves, List.mem_singleton] at hl; subst hl; exact h
  | .iptr .., h, l, hl => by simp only [Tr.leaves, List.mem_singleton] at hl; subst hl; exact h
  | .own .., h, l, hl => by simp only [Tr.leaves, List.mem_singleton] at hl; subst hl; exact h
  | .sl .., h, l, hl => by simp only [Tr.leaves, List.mem_singleton] at hl; subst hl; exact h
  | .tup .., h, l, hl => by simp only [Tr.leaves, List.mem_singleton] at hl; subst hl; exact h
  | .clo .., h, l, hl => by simp only [Tr.leaves, List.mem_singleton] at hl; subst hl; exact h
theorem noslL_leaves : ∀ xs : List Tr, noslL xs = true → ∀ l ∈ leavesL xs, l.nosl = true
  | [], _, l, hl => by simp [leavesL] at hl
  | x :: xs, h, l, hl => by
    simp only [noslL, Bool.and_eq_true] at h
    simp only [leavesL, List.mem_append] at hl
    rcases hl with hl | hl
    · exact nosl_leaves x h.1 l hl
    · exact noslL_leaves xs h.2 l hl
end

theorem VR.nosl_move {M M1 : Mem} {t : Tr} {v : Value} (h : VR M t v) (hl : t.nosl = true) : VR M1 t v := by
  induction h with
  | any v => simp [Tr.nosl] at hl
  | int k n => exact .int k n
  | bool b => exact .bool b
  | str s => exact .str s
  | nilp => exact .nilp
  | nils => exact .nils
  | nilf => exact .nilf
  | ptr => simp [Tr.nosl] at hl
  | own => simp [Tr.nosl] at hl
  | iptr => simp [Tr.nosl] at hl
  | sl => simp [Tr.nosl] at hl
  | @agg t cs ha hwf hs hv ih => exact .agg ha hwf hs fun i l hi => ih i l hi (nosl_leaves t hl l (List.mem_of_getElem? hi))
  | @tup xs vs hs hv ih =>
    simp only [Tr.nosl] at hl
    exact .tup hs fun i x hi => ih i x hi ((noslL_iff xs).1 hl x (List.mem_of_getElem? hi))
  | @clo f xs vs hs hv ih =>
    simp only [Tr.nosl] at hl
    exact .clo hs fun i x hi => ih i x hi ((noslL_iff xs).1 hl x (List.mem_of_getElem? hi))

mutual
/-- The tree with rows of the call's own told as what they show. -/
def frz (H : Heap) (D : Nat → Bool) : Tr → Tr
  | .own d g lo len =>
    match H d with
    | (g', .row e sz xs) => if D d = true ∧ g' = g ∧ lo + len ≤ xs.length ∧ lfL ((xs.drop lo).take len) = true then .sl sz ((xs.drop lo).take len) else .own d g lo len
    | _ => .own d g lo len
  | .node sz os xs => .node sz os (frzL H D xs)
  | .arr sz xs => .arr sz (frzL H D xs)
  | .tup xs => .tup (frzL H D xs)
  | .clo f xs => .clo f (frzL H D xs)
  | .any => .any
  | .int k n => .int k n
  | .bool b => .bool b
  | .str s => .str s
  | .nilp => .nilp
  | .nils => .nils
  | .nilf => .nilf
  | .ptr d g p o => .ptr d g p o
  | .iptr x => .iptr x
  | .sl sz xs => .sl sz xs
def frzL (H : Heap) (D : Nat → Bool) : List Tr → List Tr
  | [] => []
  | x :: xs => frz H D x :: frzL H D xs
end

theorem frzL_eq (H : Heap) (D : Nat → Bool) : ∀ xs, frzL H D xs = xs.map (frz H D)
  | [] => rfl
  | x :: xs => by simp [frzL, frzL_eq H D xs]

mutual
theorem frz_lf (H : Heap) (D : Nat → Bool) : ∀ t : Tr, t.lf = true → frz H D t = t
  | .node _ _ xs, h => by simp only [frz]; rw [frzL_lf H D xs (by simpa [Tr.lf] using h)]
  | .arr _ xs, h => by simp only [frz]; rw [frzL_lf H D xs (by simpa [Tr.lf] using h)]
  | .tup xs, h => by simp only [frz]; rw [frzL_lf H D xs (by simpa [Tr.lf] using h)]
  | .clo _ xs, h => by simp only [frz]; rw [frzL_lf H D xs (by simpa [Tr.lf] using h)]
  | .own .., h => by simp [Tr.lf] at h
  | .any, _ => rfl
  | .int .., _ => rfl
  | .bool .., _ => rfl
  | .str .., _ => rfl
  | .nilp, _ => rfl
  | .nils, _ => rfl
  | .nilf, _ => rfl
  | .ptr .., _ => rfl
  | .iptr .., _ => rfl
  | .sl .., _ => rfl
theorem frzL_lf (H : Heap) (D : Nat → Bool) : ∀ xs : List Tr, lfL xs = true → frzL H D xs = xs
  | [], _ => rfl
  | x :: xs, h => by
    simp only [lfL, Bool.and_eq_true] at h
    simp only [frzL]
    rw [frz_lf H D x h.1, frzL_lf H D xs h.2]
end

theorem frz_size (H : Heap) (D : Nat → Bool) (t : Tr) : (frz H D t).size = t.size := by
  cases t <;> simp only [frz] <;> first | rfl | (simp [frzL_eq, Tr.size]; done) | skip
  split
  · split <;> rfl
  · rfl

theorem frz_isAgg (H : Heap) (D : Nat → Bool) (t : Tr) : (frz H D t).isAgg = t.isAgg := by
  cases t <;> simp only [frz] <;> first | rfl | skip
  split
  · split <;> rfl
  · rfl

mutual
theorem frz_leaves (H : Heap) (D : Nat → Bool) : ∀ t : Tr, (frz H D t).leaves = t.leaves.map (frz H D)
  | .node _ _ xs => by simp only [frz, Tr.leaves]; exact frzL_leaves H D xs
  | .arr _ xs => by simp only [frz, Tr.leaves]; exact frzL_leaves H D xs
  | .tup xs => by simp [frz, Tr.leaves]
  | .clo _ xs => by simp [frz, Tr.leaves]
  | .own d g lo len => by
    simp only [frz, Tr.leaves, List.map_cons, List.map_nil]
    split
    · split <;> simp [Tr.leaves]
    · simp [Tr.leaves]
  | .any => rfl
  | .int .. => rfl
  | .bool .. => rfl
  | .str .. => rfl
  | .nilp => rfl
  | .nils => rfl
  | .nilf => rfl
  | .ptr .. => rfl
  | .iptr .. => rfl
  | .sl .. => rfl
theorem frzL_leaves (H : Heap) (D : Nat → Bool) : ∀ xs : List Tr, leavesL (frzL H D xs) = (leavesL xs).map (frz H D)
  | [] => rfl
  | x :: xs => by simp only [frzL, leavesL, List.map_append]; rw [frz_leaves H D x, frzL_leaves H D xs]
end

theorem offsOK_frz (H : Heap) (D : Nat → Bool) : ∀ (os : List Nat) (xs : List Tr) (a sz : Nat), offsOK os xs a sz → offsOK os (frzL H D xs) a sz
  | [], [], _, _, h => h
  | o :: os, x :: xs, a, sz, h => by
    simp only [offsOK] at h
    simp only [frzL, offsOK, frz_size]
    exact ⟨h.1, offsOK_frz H D os xs _ _ h.2⟩
  | [], _ :: _, _, _, h => by simp [offsOK] at h
  | _ :: _, [], _, _, h => by simp [offsOK] at h

/-- What is told as never changing when rows are told as what they show. -/
def Mem.frozen (M : Mem) (D : Nat → Bool) : Mem := { M with Im := fun b => M.Im b ∨ ∃ d K e sz xs, D d = true ∧ (M.H d).2 = .row e sz xs ∧ M.β d = some (b, K) }

theorem frozen_mono (M : Mem) (D : Nat → Bool) : ∀ b, M.Im b → (M.frozen D).Im b := fun _ h => .inl h

mutual
theorem frz_wf {M : Mem} (ok : MemOK M) (D : Nat → Bool) : ∀ t : Tr, t.wf → (frz M.H D t).wf
  | .node _ _ xs, h => by
    simp only [Tr.wf] at h
    simp only [frz, Tr.wf]
    exact ⟨offsOK_frz _ _ _ _ _ _ h.1, frzL_wf ok D xs h.2⟩
  | .arr _ xs, h => by
    simp only [Tr.wf] at h
    simp only [frz, Tr.wf]
    refine ⟨fun x hx => ?_, frzL_wf ok D xs h.2⟩
    rw [frzL_eq] at hx
    obtain ⟨y, hy, rfl⟩ := List.mem_map.1 hx
    rw [frz_size]
    exact h.1 y hy
  | .own d g lo len, h => by
    simp only [frz]
    split
    · rename_i g' e sz xs hd
      split
      · have ho := ok.objs d
        unfold ObjR at ho
        rw [hd] at ho
        simp only [Tr.wf]
        exact ⟨fun x hx => (ho.2.1 x (List.mem_of_mem_drop (List.mem_of_mem_take hx))).2, (wfL_iff _).2 fun x hx => (ho.2.1 x (List.mem_of_mem_drop (List.mem_of_mem_take hx))).1⟩
      · exact h
    · exact h
  | .tup xs, h => by simp [Tr.wf] at h
  | .clo _ xs, h => h
  | .any, h => h
  | .int .., h => h
  | .bool .., h => h
  | .str .., h => h
  | .nilp, h => h
  | .nils, h => h
  | .nilf, h => h
  | .ptr .., h => h
  | .iptr .., h => h
  | .sl .., h => h
theorem frzL_wf {M : Mem} (ok : MemOK M) (D : Nat → Bool) : ∀ xs : List Tr, wfL xs → wfL (frzL M.H D xs)
  | [], _ => trivial
  | x :: xs, h => by
    simp only [wfL] at h
    simp only [frzL, wfL]
    exact ⟨frz_wf ok D x h.1, frzL_wf ok D xs h.2⟩
end

theorem VR.frz {M : Mem} (ok : MemOK M) (D : Nat → Bool) {t : Tr} {v : Value} (h : VR M t v) : VR (M.frozen D) (frz M.H D t) v := by
  have move : ∀ {t : Tr} {v : Value}, VR M t v → VR (M.frozen D) t v := fun h => h.mono (M' := M.frozen D) ⟨frozen_mono M D, fun _ _ => rfl, fun _ => Nat.le_refl _, fun _ _ => ⟨rfl, fun _ _ xs h => ⟨xs, h⟩⟩⟩
  induction h with
  | any v => exact .any v
  | int k n => exact .int k n
  | bool b => exact .bool b
  | str s => exact .str s
  | nilp => exact .nilp
  | nils => exact .nils
  | nilf => exact .nilf
  | ptr h1 hg h => exact move (.ptr h1 hg h)
  | iptr vs hs hI hw hc hl ih => exact move (.iptr vs hs hI hw hc hl)
  | sl vs hcap hnil hw hI hc hl ih => exact move (.sl vs hcap hnil hw hI hc hl)
  | @own d g lo len v h1 hg h =>
    have hv : VR M (.own d g lo len) v := .own h1 hg h
    simp only [Ab.frz]
    split
    · rename_i g' e sz xs hd
      split
      · rename_i hc
        obtain ⟨hD, rfl, hle, hlf⟩ := hc
        have hel : aElems M.H sz (.own d g' lo len) = some ((xs.drop lo).take len) := by simp [aElems, hd, hle]
        obtain ⟨a, cap, news, rfl, hcap, hnil, hyw, hnl, hnews, hnh⟩ := elems_sound ok hv hel
        have hll : ((xs.drop lo).take len).length = len := by simp; omega
        refine .sl (fun j => news.getD j undef) hcap hnil hyw (fun ad ha hp => ?_) (fun i l hi => ?_) (fun i l hi => ?_)
        · have ho := hv.own_inv hd
          unfold OwnV at ho
          cases hβ : M.β d with
          | none => rw [hβ] at ho; omega
          | some bK =>
            obtain ⟨b, K⟩ := bK
            rw [hβ] at ho
            obtain ⟨ad', e1, hK, had⟩ := ho
            simp only [Value.slice.injEq] at e1
            obtain ⟨e1, _, _⟩ := e1
            rw [ha] at e1
            obtain rfl := Option.some.inj e1
            rw [had (by omega)]
            exact ⟨rfl, .inr ⟨d, K, e, sz, xs, hD, by rw [hd], hβ⟩⟩
        · have hyl : (leavesL ((xs.drop lo).take len)).length = news.length := by rw [hnl, leavesL_length _ ((wfL_iff _).2 fun z hz => (hyw z hz).1), sum_size_const sz _ (fun z hz => (hyw z hz).2), Nat.mul_comm]
          have hil : i < news.length := by have := (List.getElem?_eq_some_iff.1 hi).1; omega
          obtain ⟨ad, e1, e2⟩ := hnews i _ (List.getElem?_eq_getElem hil)
          refine ⟨ad, e1, ?_⟩
          simp only [List.getD, List.getElem?_eq_getElem hil, Option.getD_some]
          exact e2
        · have := hnh i l hi
          simp only [Array.getD_eq_getD_getElem?, List.getElem?_toArray] at this
          exact move this
      · exact move hv
    · exact move hv
  | @agg t cs ha hw hs hl ih =>
    refine .agg (by rw [frz_isAgg]; exact ha) (frz_wf ok D t hw) (by rw [frz_size]; exact hs) fun i l hi => ?_
    rw [frz_leaves, List.getElem?_map] at hi
    obtain ⟨l', hl', rfl⟩ := Option.map_eq_some_iff.1 hi
    exact ih i l' hl'
  | @tup xs vs hs hl ih =>
    simp only [Ab.frz, frzL_eq]
    refine .tup (by simpa using hs) fun i x hx => ?_
    rw [List.getElem?_map] at hx
    obtain ⟨y, hy, rfl⟩ := Option.map_eq_some_iff.1 hx
    exact ih i y hy
  | @clo f xs vs hs hl ih =>
    simp only [Ab.frz, frzL_eq]
    refine .clo (by simpa using hs) fun i x hx => ?_
    rw [List.getElem?_map] at hx
    obtain ⟨y, hy, rfl⟩ := Option.map_eq_some_iff.1 hx
    exact ih i y hy

end Go.Proofs.Ytnonimnhninafaa.Ab
