/- Each operation yields what the plain functions say: reading operations. -/
import Derived.Test.YtnonimnhninafaaAbOp
namespace Go.Proofs.Ytnonimnhninafaa.Ab
open Go

section inversions
variable {M : Mem} {v : Value}
theorem VR.int_inv {k : IntKind} {n : Int} (h : VR M (.int k n) v) : v = .int k n := by cases h <;> first | rfl | simp_all [Tr.isAgg]
theorem VR.bool_inv {b : Bool} (h : VR M (.bool b) v) : v = .bool b := by cases h <;> first | rfl | simp_all [Tr.isAgg]
theorem VR.str_inv {s : ByteArray} (h : VR M (.str s) v) : v = .string s := by cases h <;> first | rfl | simp_all [Tr.isAgg]
theorem VR.nilp_inv (h : VR M .nilp v) : v = .pointer none := by cases h <;> first | rfl | simp_all [Tr.isAgg]
theorem VR.nils_inv (h : VR M .nils v) : v = .slice none 0 0 := by cases h <;> first | rfl | simp_all [Tr.isAgg]
theorem VR.nilf_inv (h : VR M .nilf v) : v = .nilFunc := by cases h <;> first | rfl | simp_all [Tr.isAgg]
theorem VR.ptr_inv {d g : Nat} {p : List Nat} {off : Nat} (h : VR M (.ptr d g p off) v) (hg : (M.H d).1 = g) : ∃ b K, M.β d = some (b, K) ∧ v = .pointer (some ⟨b, off, none⟩) := by
  cases h <;> first | simp_all [Tr.isAgg]; done | (rename_i h1 h2 h3; exact h3 hg)
theorem VR.own_inv {d g lo len : Nat} (h : VR M (.own d g lo len) v) {e : TypeId} {sz : Nat} {xs : List Tr} (hd : M.H d = (g, .row e sz xs)) : OwnV (M.β d) sz lo len v := by
  cases h <;> first | simp_all [Tr.isAgg]; done | (rename_i h1 h2 h3; exact h3 e sz xs hd)
theorem VR.agg_inv {t : Tr} (h : VR M t v) (ha : t.isAgg = true) : ∃ cs, v = .agg cs ∧ t.wf ∧ cs.size = t.size ∧ ∀ i l, t.leaves[i]? = some l → VR M l (cs.getD i undef) := by
  cases h <;> first | (simp [Tr.isAgg] at ha; done) | exact ⟨_, rfl, by assumption, by assumption, by assumption⟩
theorem VR.iptr_inv {x : Tr} (h : VR M (.iptr x) v) : ∃ (a : Addr) (vs : Nat → Value), v = .pointer (some a) ∧ a.spot = none ∧ M.Im a.block ∧ x.wf ∧ (∀ i l, x.leaves[i]? = some l → M.w.cell? (a.add i) = some (vs i)) ∧ (∀ i l, x.leaves[i]? = some l → VR M l (vs i)) := by
  cases h <;> first | (simp_all [Tr.isAgg]; done) | exact ⟨_, _, rfl, by assumption, by assumption, by assumption, by assumption, by assumption⟩
theorem VR.sl_inv {sz : Nat} {xs : List Tr} (h : VR M (.sl sz xs) v) : ∃ (a : Option Addr) (cap : Nat) (vs : Nat → Value), v = .slice a xs.length cap ∧ xs.length ≤ cap ∧ (a = none → cap = 0) ∧ (∀ x ∈ xs, x.wf ∧ x.size = sz) ∧
    (∀ ad, a = some ad → 0 < xs.length → ad.spot = none ∧ M.Im ad.block) ∧ (∀ i l, (leavesL xs)[i]? = some l → ∃ ad, a = some ad ∧ M.w.cell? (ad.add i) = some (vs i)) ∧ (∀ i l, (leavesL xs)[i]? = some l → VR M l (vs i)) := by
  cases h <;> first | (simp_all [Tr.isAgg]; done) | exact ⟨_, _, _, rfl, by assumption, by assumption, by assumption, by assumption, by assumption, by assumption⟩
theorem VR.tup_inv {xs : List Tr} (h : VR M (.tup xs) v) : ∃ vs, v = .tuple vs ∧ vs.size = xs.length ∧ ∀ i x, xs[i]? = some x → VR M x (vs.getD i undef) := by
  cases h <;> first | (simp_all [Tr.isAgg]; done) | exact ⟨_, rfl, by assumption, by assumption⟩
theorem VR.clo_inv {f : FuncId} {xs : List Tr} (h : VR M (.clo f xs) v) : ∃ vs, v = .func (.func f) #[] vs ∧ vs.size = xs.length ∧ ∀ i x, xs[i]? = some x → VR M x (vs.getD i undef) := by
  cases h <;> first | (simp_all [Tr.isAgg]; done) | exact ⟨_, rfl, by assumption, by assumption⟩
end inversions

theorem good_wf {M : Mem} {t : Tr} {v : Value} (h : VR M t v) (hg : t.good = true) : t.wf :=
  h.wf (fun e => by simp [e, Tr.good] at hg) (fun xs e => by simp [e, Tr.good] at hg)

/-- The cells of a value that a good tree tells of. -/
theorem VR.cells {M : Mem} {t : Tr} {v : Value} (h : VR M t v) (hg : t.good = true) :
    v.cells.size = t.size ∧ ∀ i l, t.leaves[i]? = some l → VR M l (v.cells.getD i undef) := by
  have hw := good_wf h hg
  by_cases ha : t.isAgg = true
  · obtain ⟨cs, rfl, _, hs, hl⟩ := h.agg_inv ha
    exact ⟨hs, hl⟩
  · have hleaf : t.isLeaf = true := by cases t <;> simp_all [Tr.isAgg, Tr.isLeaf, Tr.good]
    have h1 := h.one hw hleaf
    have hc : v.cells = #[v] := by cases v <;> simp_all [Value.cells, Value.oneCell']
    have hlv : t.leaves = [t] := by cases t <;> simp_all [Tr.leaves, Tr.isAgg]
    have hsz : t.size = 1 := by cases t <;> simp_all [Tr.size, Tr.isAgg]
    rw [hc, hlv, hsz]
    refine ⟨rfl, fun i l hi => ?_⟩
    cases i with
    | zero => simp at hi; subst hi; simpa using h
    | succ i => simp at hi

theorem VR.cells_one {M : Mem} {t : Tr} {v : Value} (h : VR M t v) (hg : t.good = true) : ∀ u ∈ v.cells, u.oneCell' = true := by
  intro u hu
  obtain ⟨hs, hl⟩ := h.cells hg
  have hw := good_wf h hg
  obtain ⟨i, hi, rfl⟩ := Array.mem_iff_getElem.1 hu
  have hlt : i < t.leaves.length := by rw [leaves_length t hw]; omega
  have := hl i t.leaves[i] (List.getElem?_eq_getElem hlt)
  obtain ⟨hlw, hll⟩ := leaves_wf t hw _ (List.getElem_mem hlt)
  have e : v.cells.getD i undef = v.cells[i] := by simp [hi]
  rw [e] at this
  exact this.one hlw hll

/-- An aggregate or a leaf out of its cells. -/
theorem VR.of_cells {M : Mem} {t : Tr} (hw : t.wf) (hg : t.good = true) (cs : List Value) (hs : cs.length = t.size)
    (hl : ∀ (i : Nat) l, t.leaves[i]? = some l → ∃ u, cs[i]? = some u ∧ VR M l u) :
    (t.isAgg = true → VR M t (.agg cs.toArray)) ∧ (t.isAgg = false → ∃ u, cs = [u] ∧ VR M t u) := by
  constructor
  · intro ha
    refine .agg ha hw (by simpa using hs) fun i l hi => ?_
    obtain ⟨u, hu, hv⟩ := hl i l hi
    simpa [hu] using hv
  · intro ha
    have hlv : t.leaves = [t] := by cases t <;> simp_all [Tr.leaves, Tr.isAgg, Tr.good]
    have hsz : t.size = 1 := by cases t <;> simp_all [Tr.size, Tr.isAgg]
    rw [hsz] at hs
    obtain ⟨u, rfl⟩ := List.length_eq_one_iff.1 hs
    obtain ⟨u', hu', hv⟩ := hl 0 t (by simp [hlv])
    simp at hu'
    subst hu'
    exact ⟨u, rfl, hv⟩

/-- What an operation does, seen from the trees. -/
def OpOK (P : Program) (Φ : Base) (M : Mem) (x : Sem Next) (val : Tr) (H' : Heap) : Prop :=
  ∃ v M', (x.run P M.w = .ok (.value v) M'.w ∨ (x.run P M.w = .ok .skip M'.w ∧ v = undef)) ∧ M'.H = H' ∧ MemOK M' ∧ Fr Φ M' ∧ Mono M M' ∧ VR M' val v

/-- An operation that leaves the memory alone. -/
theorem OpOK.still {P : Program} {Φ : Base} {M : Mem} (ok : MemOK M) (fr : Fr Φ M) {x : Sem Next} {val : Tr} {v : Value} (hr : x.run P M.w = .ok (.value v) M.w) (hv : VR M val v) :
    OpOK P Φ M x val M.H := ⟨v, M, .inl hr, rfl, ok, fr, Mono.refl M, hv⟩

theorem add_block (a : Addr) (i : Nat) : (a.add i).block = a.block := by unfold Addr.add; split <;> rfl
theorem add_spot (a : Addr) (i : Nat) (h : a.spot = none) : (a.add i).spot = none := by unfold Addr.add; split <;> simp_all
theorem add_mk (b o i : Nat) : (⟨b, o, none⟩ : Addr).add i = ⟨b, o + i, none⟩ := Addr.add_mid b o i

/-- What lies at an address. -/
theorem aAt_sound {M : Mem} (ok : MemOK M) {x u : Tr} {v : Value} (hv : VR M x v) (h : aAt M.H x = some u) :
    ∃ a : Addr, v = .pointer (some a) ∧ u.wf ∧ ∀ i l, u.leaves[i]? = some l → ∃ c, M.w.cell? (a.add i) = some c ∧ VR M l c := by
  unfold aAt at h
  split at h
  · rename_i y
    simp only [Option.some.injEq] at h
    subst h
    obtain ⟨a, vs, rfl, _, _, hw, hc, hl⟩ := hv.iptr_inv
    exact ⟨a, rfl, hw, fun i l hi => ⟨vs i, hc i l hi, hl i l hi⟩⟩
  · rename_i d g p off
    split at h
    · rename_i hg
      obtain ⟨b, K, hb, rfl⟩ := hv.ptr_inv hg
      have ho := ok.objs d
      unfold ObjR at ho
      split at h
      · rename_i t hd
        rw [hd] at ho
        obtain ⟨hw, b', K', c, e, hb', hc, hs, hl⟩ := ho
        rw [hb] at hb'
        simp only [Option.some.injEq, Prod.mk.injEq] at hb'
        obtain ⟨rfl, rfl⟩ := hb'
        split at h
        · rename_i o u' hat
          split at h
          · rename_i hoff
            simp only [Option.some.injEq] at h
            subst h hoff
            obtain ⟨huw, k, hk, hle, hlv⟩ := at_leaves _ _ _ _ _ hw hat
            refine ⟨_, rfl, huw, fun i l hi => ?_⟩
            have hlt : i < u'.leaves.length := (List.getElem?_eq_some_iff.1 hi).1
            rw [leaves_length _ huw] at hlt
            have hi' : t.leaves[k + i]? = some l := by
              rw [← hlv, List.getElem?_take, if_pos hlt, List.getElem?_drop] at hi
              exact hi
            have hv := hl _ _ hi'
            have hlt' : k + i < c.size := by omega
            refine ⟨c[k + i], ?_, ?_⟩
            · rw [add_mk, cell_of_row M.w b (o + i) c e (0, 0) hc, hk]
              simp [hlt']
            · simpa [hlt'] using hv
          · cases h
        · cases h
      · rename_i e sz xs i p hd
        rw [hd] at ho
        obtain ⟨h0, hws, ho⟩ := ho
        rw [hb] at ho
        obtain ⟨c, hc, hs, hle, hK, hl⟩ := ho
        split at h
        · rename_i y hy
          split at h
          · rename_i o u' hat
            split at h
            · rename_i hoff
              simp only [Option.some.injEq] at h
              subst h hoff
              have hyw := (hws y (List.mem_of_getElem? hy)).1
              have hys := (hws y (List.mem_of_getElem? hy)).2
              obtain ⟨huw, k, hk, hle', hlv⟩ := at_leaves _ _ _ _ _ hyw hat
              have hi0 : i < xs.length := (List.getElem?_eq_some_iff.1 hy).1
              have hpre : (leavesL (xs.take i)).length = i * sz := by
                rw [leavesL_length _ (wfL_take ((wfL_iff _).2 fun z hz => (hws z hz).1) i), sum_size_const sz _ (fun z hz => (hws z (List.mem_of_mem_take hz)).2)]
                simp [Nat.min_eq_left (Nat.le_of_lt hi0), Nat.mul_comm]
              refine ⟨_, rfl, huw, fun j l hj => ?_⟩
              have hlt : j < u'.leaves.length := (List.getElem?_eq_some_iff.1 hj).1
              rw [leaves_length _ huw] at hlt
              have hyl := leaves_length y hyw
              have hj' : (leavesL xs)[i * sz + (k + j)]? = some l := by
                rw [leavesL_split xs i y hy, List.getElem?_append_right (by omega), hpre, List.getElem?_append_left (by omega)]
                rw [← hlv, List.getElem?_take, if_pos hlt, List.getElem?_drop] at hj
                rw [show i * sz + (k + j) - i * sz = k + j by omega]
                exact hj
              have hv := hl _ _ hj'
              have hbd : i * sz + (k + j) < c.size := by
                have h1 : (i + 1) * sz ≤ K * sz := Nat.mul_le_mul_right _ (by omega)
                rw [Nat.add_mul, Nat.one_mul] at h1
                omega
              refine ⟨c[i * sz + (k + j)], ?_, ?_⟩
              · rw [add_mk, cell_of_row M.w b _ c e (0, 0) hc, hk, Nat.add_assoc]
                simp [hbd]
              · simpa [hbd] using hv
            · cases h
          · cases h
        · cases h
      · cases h
    · cases h
  · cases h

theorem tab_size {P : Program} {Θ : Tab} (hΘ : TabOK P Θ) {t : TypeId} {i : TyI} (h : Θ t = some i) : ∃ inf, P.info? t = some inf ∧ inf.size = i.size ∧ inf.bytes = i.bytes := by
  obtain ⟨inf, h1, h2, h3, _⟩ := (hΘ t i h).info
  exact ⟨inf, h1, h2, h3⟩

theorem run_sizeOf {P : Program} {Θ : Tab} (hΘ : TabOK P Θ) {t : TypeId} {i : TyI} (h : Θ t = some i) (w : World) : (sizeOf t).run P w = .ok i.size w := by
  obtain ⟨inf, h1, h2, _⟩ := tab_size hΘ h
  simp [sizeOf, typeInfo, h1, h2]

theorem run_isAgg {P : Program} {Θ : Tab} (hΘ : TabOK P Θ) {t : TypeId} {i : TyI} (h : Θ t = some i) (w : World) : (isAgg t).run P w = .ok i.kind.isAgg w := by
  have hu := (hΘ t i h).und
  cases hi : i.kind <;> rw [hi] at hu <;> simp only at hu
  case bool => simp [isAgg, run_underlying hu, TyK.isAgg]
  case int k => simp [isAgg, run_underlying hu, TyK.isAgg]
  case str => simp [isAgg, run_underlying hu, TyK.isAgg]
  case ptr e => simp [isAgg, run_underlying hu, TyK.isAgg]
  case slice e => simp [isAgg, run_underlying hu, TyK.isAgg]
  case array n e => simp [isAgg, run_underlying hu.1, TyK.isAgg]
  case struct offs tys => obtain ⟨fs, hu, _⟩ := hu; simp [isAgg, run_underlying hu, TyK.isAgg]
  case func => obtain ⟨_, _, _, hu⟩ := hu; simp [isAgg, run_underlying hu, TyK.isAgg]
  case tuple => obtain ⟨_, hu⟩ := hu; simp [isAgg, run_underlying hu, TyK.isAgg]
  case other => obtain ⟨d, hu, hd⟩ := hu; cases d <;> simp_all [isAgg, run_underlying hu, TyK.isAgg, TypeDesc.isRow]

/-- A part of a tree is read out of the memory. -/
theorem run_load_tree {P : Program} {Θ : Tab} (hΘ : TabOK P Θ) {M : Mem} {t : TypeId} {i : TyI} (ht : Θ t = some i) {u : Tr} (hw : u.wf) (hg : u.good = true) (hs : u.size = i.size) (ha : u.isAgg = i.kind.isAgg)
    (a : Addr) (hc : ∀ j l, u.leaves[j]? = some l → ∃ c, M.w.cell? (a.add j) = some c ∧ VR M l c) :
    ∃ v, (loadVar t a).run P M.w = .ok v M.w ∧ VR M u v := by
  have hlen := leaves_length u hw
  let cs : List Value := (List.range u.size).map fun j => (M.w.cell? (a.add j)).getD undef
  have hcs : cs.length = u.size := by simp [cs]
  have hcell : ∀ (j : Nat) c, cs[j]? = some c → M.w.cell? (a.add j) = some c := by
    intro j c hj
    have hjl : j < u.size := by have := (List.getElem?_eq_some_iff.1 hj).1; omega
    obtain ⟨c', hc', _⟩ := hc j _ (List.getElem?_eq_getElem (by omega))
    simp only [cs, List.getElem?_map, List.getElem?_range hjl, Option.map_some, hc', Option.getD_some, Option.some.injEq] at hj
    rw [hc', hj]
  have hof := VR.of_cells (M := M) hw hg cs hcs (fun j l hj => by
    obtain ⟨c, hcc, hv⟩ := hc j l hj
    have hjl : j < u.size := by have := (List.getElem?_eq_some_iff.1 hj).1; omega
    exact ⟨c, by simp [cs, hjl, hcc], hv⟩)
  cases hag : i.kind.isAgg with
  | true =>
    refine ⟨.agg cs.toArray, ?_, hof.1 (ha.trans hag)⟩
    have hl := run_loadCells_list (P := P) M.w a cs hcell
    rw [hcs] at hl
    simp only [loadVar, Sem.run_bind, run_isAgg hΘ ht, hag, Result.andThen_ok, if_true, run_sizeOf hΘ ht, ← hs, hl, Sem.run_pure]
  | false =>
    obtain ⟨c, he, hv⟩ := hof.2 (ha.trans hag)
    refine ⟨c, ?_, hv⟩
    have h0 := hcell 0 c (by simp [he])
    rw [Addr.add_zero'] at h0
    simp only [loadVar, Sem.run_bind, run_isAgg hΘ ht, hag, Result.andThen_ok, Bool.false_eq_true, if_false, run_load, h0]

end Go.Proofs.Ytnonimnhninafaa.Ab
