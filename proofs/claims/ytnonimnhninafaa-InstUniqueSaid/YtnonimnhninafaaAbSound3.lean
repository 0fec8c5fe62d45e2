/- Each operation yields what the plain functions say: reckoning, comparing. -/
import Derived.Test.YtnonimnhninafaaAbSound2
namespace Go.Proofs.Ytnonimnhninafaa.Ab
open Go

section
variable {P : Program} {Θ : Tab} (hΘ : TabOK P Θ) {M : Mem}

theorem eqT_kind {Θ : Tab} {n : Nat} {t : TypeId} {x y : Tr} {b : Bool} {i : TyI} (ht : Θ t = some i) (h : eqT Θ (n + 1) t x y = some b) :
    x.isAgg = i.kind.isAgg ∧ y.isAgg = i.kind.isAgg ∧ x.good = true ∧ y.good = true := by
  simp only [eqT, ht] at h
  split at h <;> first | (cases h; done) | (rename_i hk; simp [hk, Tr.isAgg, TyK.isAgg, Tr.good])

/-- The cells of a part are its leaves. -/
def CellsAt (M : Mem) (cs : Array Value) (off : Nat) (x : Tr) : Prop :=
  x.wf ∧ off + x.size ≤ cs.size ∧ ∀ j l, x.leaves[j]? = some l → VR M l (cs.getD (off + j) undef)

theorem cellsAt_node {cs : Array Value} {sz : Nat} {os : List Nat} {xs : List Tr} (hw : (Tr.node sz os xs).wf) (hs : cs.size = sz)
    (hl : ∀ i l, (Tr.node sz os xs).leaves[i]? = some l → VR M l (cs.getD i undef)) {j o : Nat} {x : Tr} (ho : os[j]? = some o) (hx : xs[j]? = some x) : CellsAt M cs o x := by
  have hat : Tr.atF 0 [j] (.node sz os xs) = some (0 + o, x) := by simp [Tr.atF, ho, hx]
  obtain ⟨hyw, k, hk', hle, hlv⟩ := at_leaves _ _ _ _ _ hw hat
  have hk'' : k = o := by omega
  subst hk''
  have hyl := leaves_length x hyw
  refine ⟨hyw, by rw [hs]; exact hle, fun j l hj => hl _ _ ?_⟩
  have hjl : j < x.leaves.length := (List.getElem?_eq_some_iff.1 hj).1
  rw [← hlv, List.getElem?_take, if_pos (by omega), List.getElem?_drop] at hj
  exact hj

theorem cellsAt_arr {cs : Array Value} {sz : Nat} {xs : List Tr} (hw : (Tr.arr sz xs).wf) (hs : cs.size = sz * xs.length)
    (hl : ∀ i l, (Tr.arr sz xs).leaves[i]? = some l → VR M l (cs.getD i undef)) {j : Nat} {x : Tr} (hx : xs[j]? = some x) : CellsAt M cs (j * sz) x := by
  simp only [Tr.wf] at hw
  have hws : ∀ z ∈ xs, z.wf ∧ z.size = sz := fun z hz => ⟨(wfL_iff _).1 hw.2 z hz, hw.1 z hz⟩
  have hy2 := hws x (List.mem_of_getElem? hx)
  have hyi : j < xs.length := (List.getElem?_eq_some_iff.1 hx).1
  refine ⟨hy2.1, ?_, fun i l hi => hl _ _ ?_⟩
  · rw [hs, hy2.2]
    have : (j + 1) * sz ≤ xs.length * sz := Nat.mul_le_mul_right _ (by omega)
    rw [Nat.add_mul, Nat.one_mul] at this
    rw [Nat.mul_comm sz]; exact this
  · simpa [Tr.leaves] using leavesL_elem sz xs hws _ _ hx i l hi

def EqIH (P : Program) (Θ : Tab) (M : Mem) (n : Nat) : Prop := ∀ (k : Nat) (t : TypeId) (x y : Tr) (b : Bool) (vx vy : Value), eqT Θ n t x y = some b → VR M x vx → VR M y vy →
  (Op.equalIn (n + k) t vx vy).run P M.w = .ok b M.w

include hΘ in
theorem eqFields_sound {n : Nat} (ih : EqIH P Θ M n) (k : Nat) (cs ds : Array Value) : ∀ (fs : List Field) (xs ys : List Tr) (b : Bool), (∀ f ∈ fs, f.name ≠ "_") →
    (∀ (j : Nat) x, xs[j]? = some x → ∃ f : Field, fs[j]? = some f ∧ CellsAt M cs f.offset x) → (∀ (j : Nat) y, ys[j]? = some y → ∃ f : Field, fs[j]? = some f ∧ CellsAt M ds f.offset y) →
    eqT.eqL Θ n (fs.map (·.type)) xs ys = some b → (Op.eqFields (n + k) cs ds fs).run P M.w = .ok b M.w
  | [], [], [], b, _, _, _, h => by
    simp only [List.map_nil, eqT.eqL, Option.some.injEq] at h
    subst h; simp [Op.eqFields]
  | f :: fs, x :: xs, y :: ys, b, hn, hx, hy, h => by
    simp only [List.map_cons, eqT.eqL] at h
    split at h
    · rename_i i b1 hi hb1
      split at h
      · rename_i hsz
        split at h
        · rename_i r hr
          obtain rfl := Option.some.inj h
          have hrest := eqFields_sound ih k cs ds fs xs ys r (fun g hg => hn g (by simp [hg])) (fun j x' hj => by simpa using hx (j + 1) x' (by simpa using hj)) (fun j y' hj => by simpa using hy (j + 1) y' (by simpa using hj)) hr
          obtain ⟨f1, hf1, cx⟩ := hx 0 x (by simp)
          obtain ⟨f2, hf2, cy⟩ := hy 0 y (by simp)
          simp only [List.getElem?_cons_zero, Option.some.injEq] at hf1 hf2
          subst hf1; subst hf2
          cases n with
          | zero => simp [eqT] at hb1
          | succ n =>
            obtain ⟨k1, k2, k3, k4⟩ := eqT_kind hi hb1
            obtain ⟨u, hru, hvu⟩ := part_sound (P := P) (M := M) hΘ hi cx.1 k3 hsz.1 k1 cx.2.1 cx.2.2
            obtain ⟨v, hrv, hvv⟩ := part_sound (P := P) (M := M) hΘ hi cy.1 k4 hsz.2 k2 cy.2.1 cy.2.2
            have he := ih k _ _ _ _ _ _ hb1 hvu hvv
            have hnm : f.name ≠ "_" := hn f (by simp)
            rw [Op.eqFields, if_pos hnm]
            simp only [Sem.run_bind, hru, hrv, he, Result.andThen_ok, Sem.run_ite]
            cases b1
            · simp
            · simp [hrest]
        · cases h
      · cases h
    · cases h
  | [], _ :: _, _, _, _, _, _, h => by simp [eqT.eqL] at h
  | [], [], _ :: _, _, _, _, _, h => by simp [eqT.eqL] at h
  | _ :: _, [], _, _, _, _, _, h => by simp [eqT.eqL] at h
  | _ :: _, _ :: _, [], _, _, _, _, h => by simp [eqT.eqL] at h

include hΘ in
theorem eqArr_sound {n : Nat} (ih : EqIH P Θ M n) (k : Nat) (e : TypeId) (sz : Nat) (cs ds : Array Value) : ∀ (m s : Nat) (xs ys : List Tr) (b : Bool),
    (∀ (j : Nat) x, xs[j]? = some x → CellsAt M cs ((s + j) * sz) x) → (∀ (j : Nat) y, ys[j]? = some y → CellsAt M ds ((s + j) * sz) y) →
    eqT.eqL Θ n (List.replicate m e) xs ys = some b →
    (forIn (m := Sem) (List.range' s m) (none, ()) fun i (_ : Option Bool × Unit) => do
      let a ← part e cs (i * sz)
      let c ← part e ds (i * sz)
      let r ← Op.equalIn (n + k) e a c
      if (!r) = true then pure (ForInStep.done (some false, ())) else pure (ForInStep.yield (none, ()))).run P M.w = .ok (if b then none else some false, ()) M.w
  | 0, s, [], [], b, _, _, h => by
    simp only [List.replicate_zero, eqT.eqL, Option.some.injEq] at h
    subst h; simp
  | m + 1, s, x :: xs, y :: ys, b, hx, hy, h => by
    simp only [List.replicate_succ, eqT.eqL] at h
    split at h
    · rename_i i b1 hi hb1
      split at h
      · rename_i hsz
        split at h
        · rename_i r hr
          obtain rfl := Option.some.inj h
          have hrest := eqArr_sound ih k e sz cs ds m (s + 1) xs ys r (fun j x' hj => by have := hx (j + 1) x' (by simpa using hj); rwa [show s + (j + 1) = s + 1 + j by omega] at this) (fun j y' hj => by have := hy (j + 1) y' (by simpa using hj); rwa [show s + (j + 1) = s + 1 + j by omega] at this) hr
          have cx := hx 0 x (by simp)
          have cy := hy 0 y (by simp)
          simp only [Nat.add_zero] at cx cy
          cases n with
          | zero => simp [eqT] at hb1
          | succ n =>
            obtain ⟨k1, k2, k3, k4⟩ := eqT_kind hi hb1
            obtain ⟨u, hru, hvu⟩ := part_sound (P := P) (M := M) hΘ hi cx.1 k3 hsz.1 k1 cx.2.1 cx.2.2
            obtain ⟨v, hrv, hvv⟩ := part_sound (P := P) (M := M) hΘ hi cy.1 k4 hsz.2 k2 cy.2.1 cy.2.2
            have he := ih k _ _ _ _ _ _ hb1 hvu hvv
            simp only [List.range'_succ, List.forIn_cons, Sem.run_bind, hru, hrv, he, Result.andThen_ok, Sem.run_ite]
            cases b1
            · simp
            · simpa using hrest
        · cases h
      · cases h
    · cases h
  | 0, _, _ :: _, _, _, _, _, h => by simp [eqT.eqL] at h
  | 0, _, [], _ :: _, _, _, _, h => by simp [eqT.eqL] at h
  | _ + 1, _, [], _, _, _, _, h => by simp [eqT.eqL, List.replicate_succ] at h
  | _ + 1, _, _ :: _, [], _, _, _, h => by simp [eqT.eqL, List.replicate_succ] at h

theorem field_at {fs : Array Field} {os : List Nat} (h : fs.toList.map (·.offset) = os) {j : Nat} (hj : j < os.length) : ∃ f : Field, fs.toList[j]? = some f ∧ os[j]? = some f.offset := by
  subst h
  have hj' : j < fs.toList.length := by simpa using hj
  exact ⟨fs.toList[j], List.getElem?_eq_getElem hj', by rw [List.getElem?_map, List.getElem?_eq_getElem hj']; rfl⟩

include hΘ in
theorem eqT_sound : ∀ n : Nat, EqIH P Θ M n
  | 0 => fun _ _ _ _ _ _ _ h => by simp [eqT] at h
  | n + 1 => fun k t x y b vx vy h hx hy => by
    have ih := eqT_sound n
    rw [show n + 1 + k = n + k + 1 by omega]
    simp only [eqT] at h
    split at h
    · cases h
    · rename_i i hi
      have hu := (hΘ t i hi).und
      split at h
      · rename_i a c hk
        rw [hk] at hu
        obtain rfl := Option.some.inj h
        obtain rfl := hx.bool_inv
        obtain rfl := hy.bool_inv
        simp [Op.equalIn, run_underlying hu]
      · rename_i k0 k1 a k2 c hk
        rw [hk] at hu
        split at h
        · rename_i hkk
          obtain rfl := Option.some.inj h
          obtain rfl := hx.int_inv
          obtain rfl := hy.int_inv
          simp [Op.equalIn, run_underlying hu, hkk]
        · cases h
      · rename_i a c hk
        rw [hk] at hu
        obtain rfl := Option.some.inj h
        obtain rfl := hx.str_inv
        obtain rfl := hy.str_inv
        simp [Op.equalIn, run_underlying hu]
      · rename_i offs tys sx ox xs sy oy ys hk
        rw [hk] at hu
        obtain ⟨fs, hu, hofs, htys, hst, hnm, _⟩ := hu
        split at h
        · rename_i ho
          obtain ⟨rfl, rfl⟩ := ho
          obtain ⟨cs, rfl, hwx, hsx, hlx⟩ := hx.agg_inv rfl
          obtain ⟨ds, rfl, hwy, hsy, hly⟩ := hy.agg_inv rfl
          have hfo : P.fieldsOf t = fs := by simp [Program.fieldsOf, hu]
          rw [run_equalIn_struct M.w (n + k) t cs ds (by rw [hfo]; exact hu) hst, hfo]
          rw [← htys] at h
          refine eqFields_sound hΘ ih k cs ds fs.toList xs ys b hnm (fun j x hj => ?_) (fun j y hj => ?_) h
          · have hlt : j < oy.length := by
              have h1 := offsOK_length _ _ _ _ (by simp only [Tr.wf] at hwx; exact hwx.1)
              have := (List.getElem?_eq_some_iff.1 hj).1
              omega
            obtain ⟨f, hf, hfo⟩ := field_at hofs hlt
            exact ⟨f, hf, cellsAt_node hwx hsx hlx hfo hj⟩
          · have hlt : j < oy.length := by
              have h1 := offsOK_length _ _ _ _ (by simp only [Tr.wf] at hwy; exact hwy.1)
              have := (List.getElem?_eq_some_iff.1 hj).1
              omega
            obtain ⟨f, hf, hfo⟩ := field_at hofs hlt
            exact ⟨f, hf, cellsAt_node hwy hsy hly hfo hj⟩
        · cases h
      · rename_i m e sx xs sy ys hk
        rw [hk] at hu
        split at h
        · rename_i ie hie
          split at h
          · rename_i hc
            obtain ⟨hsx0, hsy0, hlx0, hly0⟩ := hc
            obtain ⟨cs, rfl, hwx, hsx, hlx⟩ := hx.agg_inv rfl
            obtain ⟨ds, rfl, hwy, hsy, hly⟩ := hy.agg_inv rfl
            have hmain := eqArr_sound hΘ ih k e ie.size cs ds m 0 xs ys b (fun j x hj => by rw [Nat.zero_add, ← hsx0]; exact cellsAt_arr hwx hsx hlx hj) (fun j y hj => by rw [Nat.zero_add, ← hsy0]; exact cellsAt_arr hwy hsy hly hj) h
            simp only [Op.equalIn, Sem.run_bind, run_underlying hu.1, Result.andThen_ok, run_sizeOf hΘ hie, Std.Legacy.Range.forIn_eq_forIn_range', Std.Legacy.Range.size, Nat.sub_zero, Nat.add_one_sub_one, Nat.div_one]
            rw [hmain]
            cases b <;> simp
          · cases h
        · cases h
      · cases h

include hΘ in
theorem guard_agg {t : TypeId} {i : TyI} (hi : Θ t = some i) (ha : i.kind.isAgg = true) : P.eqGuardType P.depth t = false := by
  have hu := (hΘ t i hi).und
  cases hk : i.kind <;> rw [hk] at hu ha <;> simp [TyK.isAgg] at ha
  · exact hu.2
  · obtain ⟨fs, _, _, _, _, _, h⟩ := hu; exact h

theorem bits_run {op : BinOp} (h : op = .and ∨ op = .or ∨ op = .xor ∨ op = .andNot) (k : IntKind) (x y : Int) (w : World) : (Op.intBits op k x y).run P w = .ok (.int k (bitOf op k x y)) w := by
  rcases h with rfl | rfl | rfl | rfl <;> rfl

theorem equal_nils (d : Nat) {t e : TypeId} (hu : P.underlying t = some (.slice e)) : (Op.equalIn (d + 1) t (.slice none 0 0) (.slice none 0 0)).run P M.w = .ok true M.w := by
  simp [Op.equalIn, run_underlying hu]

include hΘ in
theorem aEq_sound {t : TypeId} {x y : Tr} {b : Bool} {vx vy : Value} (h : aEq Θ t x y = some b) (hx : VR M x vx) (hy : VR M y vy) :
    (Op.equal t vx vy).run P M.w = .ok b M.w ∧ ∀ op ox oy, (eqGuard op t ox oy vx vy).run P M.w = .ok () M.w := by
  have agg : ∀ {x y : Tr}, x.isAgg = true → y.isAgg = true → eqT Θ eqDepth t x y = some b → VR M x vx → VR M y vy →
      (Op.equal t vx vy).run P M.w = .ok b M.w ∧ ∀ op ox oy, (eqGuard op t ox oy vx vy).run P M.w = .ok () M.w := by
    intro x y hax hay h hx hy
    refine ⟨eqT_sound hΘ eqDepth 9980 t x y b vx vy h hx hy, fun op ox oy => ?_⟩
    obtain ⟨cs, rfl, _⟩ := hx.agg_inv hax
    obtain ⟨ds, rfl, _⟩ := hy.agg_inv hay
    cases hi : Θ t with
    | none => simp [eqDepth, eqT, hi] at h
    | some i =>
      have hk := (eqT_kind hi h).1
      exact run_eqGuard_agg M.w op t ox oy cs ds (guard_agg hΘ hi (hk ▸ hax))
  unfold aEq at h
  split at h
  · split at h
    · rename_i i hi
      split at h
      · rename_i hk
        have hu := (hΘ t i hi).und
        rw [hk] at hu
        obtain rfl := Option.some.inj h
        obtain rfl := hx.bool_inv
        obtain rfl := hy.bool_inv
        exact ⟨run_equalIn_bool' M.w 9999 t _ _ hu, fun op _ _ => by cases op <;> simp [eqGuard]⟩
      · cases h
    · cases h
  · split at h
    · rename_i i hi
      split at h
      · rename_i e hk
        have hu := (hΘ t i hi).und
        rw [hk] at hu
        obtain rfl := Option.some.inj h
        obtain rfl := hx.nils_inv
        obtain rfl := hy.nils_inv
        exact ⟨equal_nils 9999 hu, fun op _ _ => by cases op <;> simp [eqGuard]⟩
      · cases h
    · cases h
  · cases h
  · cases h
  · exact agg rfl rfl h hx hy
  · exact agg rfl rfl h hx hy
  · cases h

include hΘ in
theorem bin_sound {op : BinOp} {t : TypeId} {x y r : Tr} {vx vy : Value} (h : aBin Θ op t x y = some r) (hx : VR M x vx) (hy : VR M y vy) (ox oy : Operand) :
    ∃ u, (do eqGuard op t ox oy vx vy; binOp op t vx vy : Sem Value).run P M.w = .ok u M.w ∧ VR M r u := by
  unfold aBin at h
  split at h
  · rename_i k a k' b
    obtain rfl := hx.int_inv
    obtain rfl := hy.int_inv
    unfold aShift at h
    split at h
    · cases h
    · rename_i hb
      simp only [Option.some.injEq] at h
      subst h
      refine ⟨_, ?_, .int _ _⟩
      simp [eqGuard, binOp, Op.shift, hb]
  · rename_i k a k' b
    obtain rfl := hx.int_inv
    obtain rfl := hy.int_inv
    unfold aShift at h
    split at h
    · cases h
    · rename_i hb
      simp only [Option.some.injEq] at h
      subst h
      refine ⟨_, ?_, .int _ _⟩
      simp [eqGuard, binOp, Op.shift, hb]
  · rename_i k a k' b hn1 hn2
    obtain rfl := hx.int_inv
    obtain rfl := hy.int_inv
    split at h
    · rename_i hkk
      subst hkk
      unfold aInt at h
      split at h <;> first
        | (cases h; done)
        | (split at h <;> first | (cases h; done) | (rename_i hz; simp only [Option.some.injEq] at h; subst h; exact ⟨_, by simp [eqGuard, binOp, Op.intDiv, hz], .int _ _⟩))
        | (simp only [Option.some.injEq] at h; subst h
           first
            | (refine ⟨_, ?_, .int _ _⟩; simp [eqGuard, binOp, Op.intArith]; done)
            | (refine ⟨_, ?_, .int _ _⟩; simp [eqGuard, binOp]; exact bits_run (by simp) _ _ _ _)
            | (refine ⟨_, ?_, .bool _⟩; simp [eqGuard, binOp, Op.intCmp]; done))
    · cases h
  · rename_i a b
    obtain rfl := hx.str_inv
    obtain rfl := hy.str_inv
    unfold aStr at h
    split at h <;> first
      | (cases h; done)
      | (split at h <;> first | (cases h; done) | (rename_i hz; simp only [Option.some.injEq] at h; subst h; exact ⟨.string (a ++ b), by have e : Op.stringOp .add a b = (pure (.string (a ++ b)) : Sem Value) := by { unfold Op.stringOp; dsimp only; rw [if_neg hz] }; simp [eqGuard, binOp, e], .str _⟩))
      | (simp only [Option.some.injEq] at h; subst h; exact ⟨_, by simp [eqGuard, binOp, Op.stringOp], .bool _⟩)
  · rename_i hn1 hn2
    obtain ⟨b, hb, rfl⟩ := Option.map_eq_some_iff.1 h
    obtain ⟨he, hg⟩ := aEq_sound hΘ hb hx hy
    refine ⟨.bool b, ?_, .bool _⟩
    have hbin : binOp .eql t vx vy = (do pure (.bool (← Op.equal t vx vy)) : Sem Value) := by
      unfold aEq at hb
      split at hb <;> first
        | (obtain rfl := hx.bool_inv; obtain rfl := hy.bool_inv; rfl)
        | (obtain rfl := hx.nils_inv; obtain rfl := hy.nils_inv; rfl)
        | (cases hb; done)
        | (obtain ⟨cs, rfl, _⟩ := hx.agg_inv rfl; obtain ⟨ds, rfl, _⟩ := hy.agg_inv rfl; rfl)
    simp only [Sem.run_bind, hg, Result.andThen_ok, hbin, he, Sem.run_pure]
  · rename_i hn1 hn2
    obtain ⟨b, hb, rfl⟩ := Option.map_eq_some_iff.1 h
    obtain ⟨he, hg⟩ := aEq_sound hΘ hb hx hy
    refine ⟨.bool (!b), ?_, .bool _⟩
    have hbin : binOp .neq t vx vy = (do pure (.bool (!(← Op.equal t vx vy))) : Sem Value) := by
      unfold aEq at hb
      split at hb <;> first
        | (obtain rfl := hx.bool_inv; obtain rfl := hy.bool_inv; rfl)
        | (obtain rfl := hx.nils_inv; obtain rfl := hy.nils_inv; rfl)
        | (cases hb; done)
        | (obtain ⟨cs, rfl, _⟩ := hx.agg_inv rfl; obtain ⟨ds, rfl, _⟩ := hy.agg_inv rfl; rfl)
    simp only [Sem.run_bind, hg, Result.andThen_ok, hbin, he, Sem.run_pure]
  · cases h

theorem un_sound {op : UnOp} {x r : Tr} {v : Value} (h : aUn op x = some r) (hx : VR M x v) : ∃ u, (Op.unary op v).run P M.w = .ok u M.w ∧ VR M r u := by
  unfold aUn at h
  split at h
  · obtain rfl := Option.some.inj h
    obtain rfl := hx.bool_inv
    exact ⟨_, by simp [Op.unary], .bool _⟩
  · obtain rfl := Option.some.inj h
    obtain rfl := hx.int_inv
    exact ⟨_, by simp [Op.unary, Op.intArith], .int _ _⟩
  · obtain rfl := Option.some.inj h
    obtain rfl := hx.int_inv
    exact ⟨_, by simp only [Op.unary]; exact bits_run (by simp) _ _ _ _, .int _ _⟩
  · cases h

include hΘ in
theorem conv_sound {src dst : TypeId} {x r : Tr} {v : Value} (hs : ∃ i, Θ src = some i) (h : aConv Θ src dst x = some r) (hx : VR M x v) : ∃ u, (convert src dst v).run P M.w = .ok u M.w ∧ VR M r u := by
  obtain ⟨si, hsi⟩ := hs
  have hus : ∃ d, P.underlying src = some d := by
    have hu := (hΘ src si hsi).und
    cases hk : si.kind <;> rw [hk] at hu <;> first | exact ⟨_, hu⟩ | exact ⟨_, hu.1⟩ | (obtain ⟨fs, hu, _⟩ := hu; exact ⟨_, hu⟩) | (obtain ⟨_, _, _, hu⟩ := hu; exact ⟨_, hu⟩) | (obtain ⟨_, hu⟩ := hu; exact ⟨_, hu⟩)
  obtain ⟨sd, hus⟩ := hus
  unfold aConv at h
  split at h
  · rename_i i k n hi
    split at h
    · rename_i k' hk
      have hu := (hΘ dst i hi).und
      rw [hk] at hu
      obtain rfl := Option.some.inj h
      obtain rfl := hx.int_inv
      exact ⟨_, by simp [convert, run_underlying hus, run_underlying hu, Conv.intToInt], .int _ _⟩
    · cases h
  · rename_i i s hi
    split at h
    · rename_i hk
      have hu := (hΘ dst i hi).und
      rw [hk] at hu
      obtain rfl := Option.some.inj h
      obtain rfl := hx.str_inv
      exact ⟨.string s, by simp [convert, run_underlying hus, run_underlying hu], .str _⟩
    · cases h
  · cases h

end
end Go.Proofs.Ytnonimnhninafaa.Ab
