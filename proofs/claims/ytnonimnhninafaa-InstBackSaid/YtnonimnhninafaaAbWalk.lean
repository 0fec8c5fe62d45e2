/- The walk: code seen from the trees. -/
import Derived.Test.YtnonimnhninafaaAbSound6
import Derived.Scope
namespace Go.Proofs.Ytnonimnhninafaa.Ab
open Go
set_option linter.unusedVariables false
set_option linter.unusedSimpArgs false

structure St where
  T : Nat → Tr
  H : Heap

def baseOf (M : Mem) : Base := ⟨M.w, fun b => ∃ d K, Live M d ∧ M.β d = some (b, K), M.Im⟩

theorem Fr.refl {M : Mem} (ok : MemOK M) : Fr (baseOf M) M where
  os := rfl
  tape := rfl
  output := rfl
  size := Nat.le_refl _
  blk _ _ _ := rfl
  own d b K hl hb := .inr ⟨d, K, hl, hb⟩
  im0 _ h := h
  im1 _ h := .inl h

theorem Fr.trans {Φ : Base} {M M' : Mem} (h : Fr Φ M) (k : Fr (baseOf M) M') (ok : MemOK M) : Fr Φ M' where
  os := k.os.trans h.os
  tape := k.tape.trans h.tape
  output := k.output.trans h.output
  size := Nat.le_trans h.size k.size
  blk b hb hL := by
    have h1 := h.size
    refine (k.blk b (Nat.lt_of_lt_of_le hb h1) ?_).trans (h.blk b hb hL)
    rintro ⟨d, K, hl, hβ⟩
    rcases h.own d b K hl hβ with h' | h'
    · omega
    · exact hL h'
  own d b K hl hb := by
    rcases k.own d b K hl hb with h' | ⟨d', K', hl', hb'⟩
    · exact .inl (Nat.le_trans h.size h')
    · exact h.own d' b K' hl' hb'
  im0 b hb := k.im0 b (h.im0 b hb)
  im1 b hb := by
    rcases k.im1 b hb with h' | h' | ⟨d, K, hl, hβ⟩
    · exact h.im1 b h'
    · exact .inr (.inl (Nat.le_trans h.size h'))
    · exact .inr (h.own d b K hl hβ)

structure Gam (M0 : Mem) (nt : Nat) (s : St) (M : Mem) (a : Act) : Prop where
  hH : M.H = s.H
  ok : MemOK M
  fr : Fr (baseOf M0) M
  mono : Mono M0 M
  tm : ∀ t, VR M (s.T t) (a.tmps.getD t undef)
  sz : a.tmps.size = nt
  df : a.defers = []

def Enters (P : Program) (f : FuncId) : Prop := ∀ args w, (callFunc f args).run P w = .ok (.enter f args) w

/-- A call of function f, seen from the trees: from whatever memory whose heap is H. -/
def CallSem (P : Program) (f : FuncId) (args : List Tr) (H : Heap) (R : Tr → Heap → Prop) : Prop :=
  Enters P f ∧ ∀ (M : Mem) (vs : Array Value), M.H = H → MemOK M → vs.size = args.length → (∀ i x, args[i]? = some x → VR M x (vs.getD i undef)) →
    Calls P f vs M.w fun e w' => ∃ v r M', e = .returned v ∧ M'.w = w' ∧ R r M'.H ∧ MemOK M' ∧ Fr (baseOf M) M' ∧ Mono M M' ∧ VR M' r v

/-- Code, seen from the trees. -/
def WP (P : Program) (nt : Nat) (c : Code) (K : Exit → St → Prop) (s : St) : Prop :=
  ∀ (M0 M : Mem) (a : Act), Gam M0 nt s M a → c.wp P (fun e a' w' => ∃ s' M', M'.w = w' ∧ K e s' ∧ Gam M0 nt s' M' a') a M.w

def putT (T : Nat → Tr) (dst : Option Tmp) (x : Tr) : Nat → Tr :=
  match dst with
  | some d => upd T d x
  | none => T

/-- The label of what an operation makes. -/
def lab (base : Nat) (dst : Option Tmp) : Nat := base + dst.getD 0

/-- Is the destination one of the frame's slots? -/
def dstOK (nt : Nat) (dst : Option Tmp) : Bool :=
  match dst with
  | some d => decide (d < nt)
  | none => true

/-- What one operation does. -/
def wpop (P : Program) (Θ : Tab) (nt base : Nat) (o : Oper) (K : St → Prop) (s : St) : Prop :=
  match o.op with
  | .call { callee := .value x, args, argTypes := _ } =>
    match rdOp s.T x with
    | .clo f caps => dstOK nt o.dst = true ∧ CallSem P f (args.toList.map (rdOp s.T) ++ caps) s.H fun r H' => K { T := putT s.T o.dst r, H := H' }
    | _ => False
  | op => match aOp Θ s.H (lab base o.dst) (rdOp s.T) op with
    | some f => dstOK nt o.dst = true ∧ K { T := putT s.T o.dst f.val, H := f.heap s.H }
    | none => False

def guardT (ds : List (Option Tmp)) (T : Nat → Tr) (j : Nat) : Tr :=
  match ds[j]? with
  | some (some d) => T d
  | _ => .any

/-- The operations of a region, in order. -/
def wpo (P : Program) (Θ : Tab) (nt base : Nat) (ds : List (Option Tmp)) : List Oper → (St → Prop) → St → Prop
  | [], K, s => K s
  | o :: rest, K, s =>
    match o.guard with
    | none => wpop P Θ nt base o (wpo P Θ nt base ds rest K) s
    | some (j, want) =>
      match guardT ds s.T j with
      | .bool c => (c = want → wpop P Θ nt base o (wpo P Θ nt base ds rest K) s) ∧ (c = !want → dstOK nt o.dst = true ∧ wpo P Θ nt base ds rest K { T := putT s.T o.dst (.tup []), H := s.H })
      | .tup [] => dstOK nt o.dst = true ∧ wpo P Θ nt base ds rest K { T := putT s.T o.dst (.tup []), H := s.H }
      | _ => False

def inBlk (id : Nat) (K : Exit → St → Prop) : Exit → St → Prop
  | .exit id', s => if id' = id then K .normal s else K (.exit id') s
  | e, s => K e s

def thenK (next : St → Prop) (K : Exit → St → Prop) : Exit → St → Prop
  | .normal, s => next s
  | e, s => K e s

def noGo (K : Exit → St → Prop) : Exit → St → Prop
  | .goto _, _ => False
  | e, s => K e s

def wpc (P : Program) (Θ : Tab) (nt base : Nat) : Code → (Exit → St → Prop) → St → Prop
  | .skip, K, s => K .normal s
  | .label _, K, s => K .normal s
  | .ret, K, s => K .ret s
  | .exit id, K, s => K (.exit id) s
  | .seq a b, K, s => wpc P Θ nt base a (thenK (wpc P Θ nt base b K) K) s
  | .cond c x y, K, s =>
    match rdOp s.T c with
    | .bool b => (b = true → wpc P Θ nt base x K s) ∧ (b = false → wpc P Θ nt base y K s)
    | _ => False
  | .block id c, K, s => wpc P Θ nt base c (inBlk id K) s
  | .scope c, K, s => wpc P Θ nt base c (noGo K) s
  | .region id ops draw, K, s => if draw = true then WP P nt (.region id ops true) K s else wpo P Θ nt base (ops.toList.map (·.dst)) ops.toList (K .normal) s
  | .loop c, K, s => WP P nt (.loop c) K s
  | .rangeFunc f ps a b, K, s => WP P nt (.rangeFunc f ps a b) K s
  | .goto _, _, _ => False
  | .refuse _, _, _ => False

section
variable {P : Program} {Θ : Tab} (hΘ : TabOK P Θ)

theorem put_getD (a : Act) (dst : Option Tmp) (v : Value) (t : Nat) (h : dstOK a.tmps.size dst = true) :
    (a.put dst v).tmps.getD t undef = if dst = some t then v else a.tmps.getD t undef := by
  cases dst with
  | none => simp [Act.put]
  | some d =>
    simp only [dstOK, decide_eq_true_eq] at h
    simp only [Act.put, Array.getD_eq_getD_getElem?, Array.getElem?_setIfInBounds]
    by_cases hd : d = t
    · subst hd; simp [h]
    · simp [hd]

theorem Gam.put {M0 : Mem} {nt : Nat} {s : St} {M : Mem} {a : Act} (g : Gam M0 nt s M a) {M' : Mem} (ok : MemOK M') (fr : Fr (baseOf M0) M') (hm : Mono M M') {dst : Option Tmp} (hd : dstOK nt dst = true) {x : Tr} {v : Value} (hv : VR M' x v) :
    Gam M0 nt { T := putT s.T dst x, H := M'.H } M' (a.put dst v) where
  hH := rfl
  ok := ok
  fr := fr
  mono := g.mono.trans hm
  tm t := by
    rw [put_getD a dst v t (by rw [g.sz]; exact hd)]
    cases dst with
    | none => simpa [putT] using (g.tm t).mono hm
    | some d =>
      simp only [putT, upd, Option.some.injEq]
      by_cases h : t = d
      · subst h; simpa using hv
      · rw [if_neg h, if_neg (fun e => h e.symm)]; exact (g.tm t).mono hm
  sz := by cases dst <;> simp [Act.put, g.sz]
  df := by cases dst <;> simp [Act.put, g.df]

theorem rd_sound {M0 : Mem} {nt : Nat} {s : St} {M : Mem} {a : Act} (g : Gam M0 nt s M a) (x : Operand) : VR M (rdOp s.T x) (a.eval x) := rdOp_vr g.tm x

theorem CallSem.mono {f : FuncId} {args : List Tr} {H : Heap} {R R' : Tr → Heap → Prop} (h : CallSem P f args H R) (hr : ∀ r H', R r H' → R' r H') : CallSem P f args H R' :=
  ⟨h.1, fun M vs hH ok hs hv => (h.2 M vs hH ok hs hv).mono fun _ _ ⟨v, r, M', h1, h2, h3, h4⟩ => ⟨v, r, M', h1, h2, hr _ _ h3, h4⟩⟩

/-- The operations' posts, at the level of the model. -/
def Post (M0 : Mem) (nt : Nat) (K : St → Prop) (a : Act) (w : World) : Prop := ∃ s M, M.w = w ∧ K s ∧ Gam M0 nt s M a

theorem array_get_map {α : Type} (xs : Array α) (f : α → Value) (i : Nat) (x : α) (h : xs.toList[i]? = some x) : (xs.map f).getD i undef = f x := by
  rw [Array.getElem?_toList] at h
  simp [Array.getD_eq_getD_getElem?, Array.getElem?_map, h]

include hΘ in
theorem wpop_sound {nt base : Nat} {o : Oper} {K : St → Prop} {s : St} (h : wpop P Θ nt base o K s) {M0 M : Mem} {a : Act} (g : Gam M0 nt s M a) {next : Act → World → Prop} {Q : Exit → Act → World → Prop}
    (hn : ∀ a w, Post M0 nt K a w → next a w) : o.wp P a M.w next Q := by
  have prim : ∀ f, aOp Θ s.H (lab base o.dst) (rdOp s.T) o.op = some f → dstOK nt o.dst = true → K { T := putT s.T o.dst f.val, H := f.heap s.H } → o.wp P a M.w next Q := by
    intro f hf hd hK
    rw [← g.hH] at hf
    obtain ⟨v, M', hrun, hH', ok', fr', hm, hv⟩ := aOp_sound (P := P) (Φ := baseOf M0) hΘ g.ok g.fr (rd_sound g) hf
    have g' := g.put ok' fr' hm hd hv
    have hK' : K { T := putT s.T o.dst f.val, H := M'.H } := by rw [hH', g.hH]; exact hK
    unfold Oper.wp
    rcases hrun with hrun | ⟨hrun, rfl⟩
    · rw [hrun, Oper.upon_value]
      exact hn _ _ ⟨_, M', rfl, hK', g'⟩
    · rw [hrun, Oper.upon_skip]
      exact hn _ _ ⟨_, M', rfl, hK', g'⟩
  unfold wpop at h
  split at h
  · rename_i x args tys hop
    split at h
    · rename_i f caps hx
      obtain ⟨hd, hent, hc⟩ := h
      have hx' := rd_sound g x
      rw [hx] at hx'
      obtain ⟨cvs, hfv, hcs, hcv⟩ := hx'.clo_inv
      have hrun : (execOp a.eval o).run P M.w = .ok (.enter f (args.map a.eval ++ cvs)) M.w := by
        simp only [execOp, hop, resolve, Deferred.ofValue, hfv, Sem.run_bind, Sem.run_pure, Result.andThen_ok, invoke]
        simpa using hent _ M.w
      unfold Oper.wp
      rw [hrun, Oper.upon_enter]
      refine (hc M (args.map a.eval ++ cvs) g.hH g.ok (by simp [hcs]) ?_).mono ?_
      · intro i y hy
        by_cases hi : i < args.size
        · rw [List.getElem?_append_left (by simpa using hi)] at hy
          obtain ⟨c, hc, rfl⟩ := map_get _ _ _ _ hy
          have : (args.map a.eval ++ cvs).getD i undef = (args.map a.eval).getD i undef := by
            simp [Array.getD_eq_getD_getElem?, Array.getElem?_append, hi]
          rw [this, array_get_map args a.eval i c hc]
          exact rd_sound g c
        · rw [List.getElem?_append_right (by simpa using hi)] at hy
          have : (args.map a.eval ++ cvs).getD i undef = cvs.getD (i - args.size) undef := by
            simp [Array.getD_eq_getD_getElem?, Array.getElem?_append, hi]
          rw [this]
          exact hcv _ _ (by simpa using hy)
      · rintro e w' ⟨v, r, M', rfl, rfl, hR, ok', fr', hm, hv⟩
        exact hn _ _ ⟨_, M', rfl, hR, g.put ok' (g.fr.trans fr' g.ok) hm hd hv⟩
    · exact h.elim
  · split at h
    · rename_i f hf
      exact prim f hf h.1 h.2
    · exact h.elim

theorem yielded_guard {nt : Nat} {s : St} {M0 M : Mem} {a : Act} (g : Gam M0 nt s M a) (ops : Array Oper) {j : Nat} {c : Bool} (h : guardT (ops.toList.map (·.dst)) s.T j = .bool c) : yielded ops a.tmps j = some c := by
  unfold guardT at h
  unfold yielded
  split at h
  · rename_i d hd0
    have hd : (ops[j]?).bind (·.dst) = some d := by
      rw [List.getElem?_map, Array.getElem?_toList] at hd0
      cases hq : ops[j]? with
      | none => rw [hq] at hd0; simp at hd0
      | some o => rw [hq] at hd0; simpa using hd0
    have hv := (g.tm d)
    rw [h] at hv
    have hb := hv.bool_inv
    rw [hd]
    simp only [Option.bind_some]
    have : a.tmps[d]? = some (.bool c) := by
      rw [Array.getD_eq_getD_getElem?] at hb
      cases hq : a.tmps[d]? with
      | none => rw [hq] at hb; simp [undef] at hb
      | some v => rw [hq] at hb; simpa using hb
    rw [this]
  · cases h

theorem yielded_skip {nt : Nat} {s : St} {M0 M : Mem} {a : Act} (g : Gam M0 nt s M a) (ops : Array Oper) {j : Nat} (h : guardT (ops.toList.map (·.dst)) s.T j = .tup []) : yielded ops a.tmps j = none := by
  unfold guardT at h
  unfold yielded
  split at h
  · rename_i d hd0
    have hd : (ops[j]?).bind (·.dst) = some d := by
      rw [List.getElem?_map, Array.getElem?_toList] at hd0
      cases hq : ops[j]? with
      | none => rw [hq] at hd0; simp at hd0
      | some o => rw [hq] at hd0; simpa using hd0
    have hv := (g.tm d)
    rw [h] at hv
    have hb : a.tmps.getD d undef = .tuple #[] := by
      cases hv' : a.tmps.getD d undef with
      | tuple vs =>
        rw [hv'] at hv
        cases hv with
        | tup hs hl => simp at hs; simp [hs]
      | _ => rw [hv'] at hv; cases hv <;> simp_all [Tr.isAgg]
    rw [hd]
    simp only [Option.bind_some]
    rw [Array.getD_eq_getD_getElem?] at hb
    cases hq : a.tmps[d]? with
    | none => rfl
    | some v => rw [hq] at hb; simp only [Option.getD_some] at hb; rw [hb]
  · cases h

theorem VR.skip (M : Mem) : VR M (.tup []) undef := .tup rfl (fun i x hx => by simp at hx)

include hΘ in
theorem wpo_sound {nt base : Nat} (ops : Array Oper) {M0 : Mem} {Q : Exit → Act → World → Prop} {K : St → Prop} (hQ : ∀ a w, Post M0 nt K a w → Q .normal a w) : ∀ (l : List Oper) (s : St), wpo P Θ nt base (ops.toList.map (·.dst)) l K s →
    ∀ (M : Mem) (a : Act), Gam M0 nt s M a → wpList P ops Q l a M.w
  | [], s, h, M, a, g => hQ _ _ ⟨s, M, rfl, h, g⟩
  | o :: rest, s, h, M, a, g => by
    have next : ∀ a w, Post M0 nt (wpo P Θ nt base (ops.toList.map (·.dst)) rest K) a w → wpList P ops Q rest a w := by
      rintro a w ⟨s', M', rfl, h', g'⟩
      exact wpo_sound ops hQ rest s' h' M' a g'
    unfold wpList
    unfold wpo at h
    split at h
    · rename_i hg
      rw [if_pos (by simp [Region.wanted, hg])]
      exact .inl (wpop_sound hΘ h g next)
    · rename_i j want hg
      split at h
      · rename_i c hc
        have hy := yielded_guard g ops hc
        by_cases hcw : c = want
        · rw [if_pos (by simp [Region.wanted, hg, hy, hcw])]
          exact .inl (wpop_sound hΘ (h.1 hcw) g next)
        · rw [if_neg (by simp [Region.wanted, hg, hy, hcw])]
          obtain ⟨hd, h2⟩ := h.2 (by cases c <;> cases want <;> simp_all)
          have hH := g.hH
          refine next _ _ ⟨_, M, rfl, ?_, g.put g.ok g.fr (Mono.refl M) hd (VR.skip M)⟩
          rw [hH]
          exact h2
      · rename_i hc
        have hy := yielded_skip g ops hc
        rw [if_neg (by simp [Region.wanted, hg, hy])]
        have hH := g.hH
        refine next _ _ ⟨_, M, rfl, ?_, g.put g.ok g.fr (Mono.refl M) h.1 (VR.skip M)⟩
        rw [hH]
        exact h.2
      · exact h.elim

/-- What a code's post asks, at the level of the model. -/
def PostX (M0 : Mem) (nt : Nat) (K : Exit → St → Prop) (e : Exit) (a : Act) (w : World) : Prop := ∃ s M, M.w = w ∧ K e s ∧ Gam M0 nt s M a

theorem WP.mono {nt : Nat} {c : Code} {K K' : Exit → St → Prop} {s : St} (h : WP P nt c K s) (hk : ∀ e s, K e s → K' e s) : WP P nt c K' s :=
  fun M0 M a g => wp_mono (h M0 M a g) fun _ _ _ ⟨s', M', h1, h2, h3⟩ => ⟨s', M', h1, hk _ _ h2, h3⟩

include hΘ in
theorem wpc_sound {nt base : Nat} : ∀ (c : Code) (K : Exit → St → Prop) (s : St), wpc P Θ nt base c K s → WP P nt c K s
  | .skip, K, s, h => fun M0 M a g => wp_skip ⟨s, M, rfl, h, g⟩
  | .label _, K, s, h => fun M0 M a g => wp_label ⟨s, M, rfl, h, g⟩
  | .ret, K, s, h => fun M0 M a g => wp_ret ⟨s, M, rfl, h, g⟩
  | .exit id, K, s, h => fun M0 M a g => wp_exit ⟨s, M, rfl, h, g⟩
  | .seq x y, K, s, h => fun M0 M a g => by
    refine wp_seq (wp_mono (wpc_sound x _ s h M0 M a g) ?_)
    rintro e a' w' ⟨s', M', rfl, hk, g'⟩
    cases e with
    | normal => exact wpc_sound y K s' hk M0 M' a' g'
    | exit id => exact ⟨s', M', rfl, hk, g'⟩
    | goto l => exact ⟨s', M', rfl, hk, g'⟩
    | ret => exact ⟨s', M', rfl, hk, g'⟩
    | panic ch => exact ⟨s', M', rfl, hk, g'⟩
    | outgrown => exact ⟨s', M', rfl, hk, g'⟩
  | .cond c x y, K, s, h => fun M0 M a g => by
    unfold wpc at h
    split at h
    · rename_i b hb
      have hv := rd_sound g c
      rw [hb] at hv
      exact wp_cond_split hv.bool_inv (fun hb => wpc_sound x K s (h.1 hb) M0 M a g) (fun hb => wpc_sound y K s (h.2 hb) M0 M a g)
    · exact h.elim
  | .block id c, K, s, h => fun M0 M a g => by
    refine wp_block (wp_mono (wpc_sound c _ s h M0 M a g) ?_)
    rintro e a' w' ⟨s', M', rfl, hk, g'⟩
    cases e with
    | exit id' =>
      simp only [inBlk] at hk
      simp only [Exit.inBlock]
      split at hk
      · rename_i hid; rw [if_pos hid]; exact ⟨s', M', rfl, hk, g'⟩
      · rename_i hid; rw [if_neg hid]; exact ⟨s', M', rfl, hk, g'⟩
    | normal => exact ⟨s', M', rfl, hk, g'⟩
    | goto l => exact ⟨s', M', rfl, hk, g'⟩
    | ret => exact ⟨s', M', rfl, hk, g'⟩
    | panic ch => exact ⟨s', M', rfl, hk, g'⟩
    | outgrown => exact ⟨s', M', rfl, hk, g'⟩
  | .scope c, K, s, h => fun M0 M a g => by
    refine wp_scope_straight (wp_mono (wpc_sound c _ s h M0 M a g) ?_)
    rintro e a' w' ⟨s', M', rfl, hk, g'⟩
    cases e with
    | goto l => exact hk
    | normal => exact ⟨s', M', rfl, hk, g'⟩
    | exit id => exact ⟨s', M', rfl, hk, g'⟩
    | ret => exact ⟨s', M', rfl, hk, g'⟩
    | panic ch => exact ⟨s', M', rfl, hk, g'⟩
    | outgrown => exact ⟨s', M', rfl, hk, g'⟩
  | .region id ops draw, K, s, h => fun M0 M a g => by
    unfold wpc at h
    cases draw with
    | true => exact h M0 M a g
    | false =>
      simp only [Bool.false_eq_true, if_false] at h
      exact wp_region_list (wpo_sound hΘ ops (fun a w ⟨s', M', h1, h2, h3⟩ => ⟨s', M', h1, h2, h3⟩) ops.toList s h M a g)
  | .loop c, K, s, h => h
  | .rangeFunc f ps x y, K, s, h => h
  | .goto _, K, s, h => h.elim
  | .refuse _, K, s, h => h.elim

/-- A loop: a relation that bears a number, which every round lowers. -/
theorem WP.loop {nt : Nat} {c : Code} {K : Exit → St → Prop} (I : Nat → St → Prop) (n₀ : Nat) {s : St} (h₀ : I n₀ s)
    (round : ∀ n s, I n s → WP P nt c (thenK (fun s' => ∃ n', n' < n ∧ I n' s') K) s) : WP P nt (.loop c) K s := fun M0 M a g => by
  refine wp_loop_ghost (fun n a w => ∃ s M, M.w = w ∧ I n s ∧ Gam M0 nt s M a) n₀ ⟨s, M, rfl, h₀, g⟩ ?_
  rintro n a w ⟨s, M, rfl, hI, g⟩
  refine wp_mono (round n s hI M0 M a g) ?_
  rintro e a' w' ⟨s', M', rfl, hk, g'⟩
  cases e with
  | normal => obtain ⟨n', hlt, hI'⟩ := hk; exact ⟨n', hlt, s', M', rfl, hI', g'⟩
  | exit id => exact ⟨s', M', rfl, hk, g'⟩
  | goto l => exact ⟨s', M', rfl, hk, g'⟩
  | ret => exact ⟨s', M', rfl, hk, g'⟩
  | panic ch => exact ⟨s', M', rfl, hk, g'⟩
  | outgrown => exact ⟨s', M', rfl, hk, g'⟩

end
end Go.Proofs.Ytnonimnhninafaa.Ab
