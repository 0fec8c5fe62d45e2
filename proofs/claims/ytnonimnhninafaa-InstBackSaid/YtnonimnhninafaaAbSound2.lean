/- Each operation yields what the plain functions say: addresses, cuts. -/
import Derived.Test.YtnonimnhninafaaAbSound
namespace Go.Proofs.Ytnonimnhninafaa.Ab
open Go

theorem add_add (a : Addr) (m n : Nat) : (a.add m).add n = a.add (m + n) := by
  unfold Addr.add
  by_cases hm : m = 0
  · simp [hm]
  · by_cases hn : n = 0
    · simp [hm, hn]
    · simp [hm, hn, Nat.add_assoc]

theorem leavesL_pre (sz : Nat) (xs : List Tr) (h : ∀ x ∈ xs, x.wf ∧ x.size = sz) (i : Nat) (hi : i ≤ xs.length) : (leavesL (xs.take i)).length = i * sz := by
  rw [leavesL_length _ (wfL_take ((wfL_iff _).2 fun z hz => (h z hz).1) i), sum_size_const sz _ (fun z hz => (h z (List.mem_of_mem_take hz)).2)]
  simp [Nat.min_eq_left hi, Nat.mul_comm]

theorem leavesL_drop (sz : Nat) (xs : List Tr) (h : ∀ x ∈ xs, x.wf ∧ x.size = sz) (i : Nat) (hi : i ≤ xs.length) : leavesL (xs.drop i) = (leavesL xs).drop (i * sz) := by
  conv => rhs; rw [← List.take_append_drop i xs]
  rw [leavesL_append, ← leavesL_pre sz xs h i hi, List.drop_left]

theorem leavesL_take (sz : Nat) (xs : List Tr) (h : ∀ x ∈ xs, x.wf ∧ x.size = sz) (i : Nat) (hi : i ≤ xs.length) : leavesL (xs.take i) = (leavesL xs).take (i * sz) := by
  conv => rhs; rw [← List.take_append_drop i xs]
  rw [leavesL_append, ← leavesL_pre sz xs h i hi, List.take_left]

theorem leavesL_take' (sz : Nat) (xs : List Tr) (h : ∀ x ∈ xs, x.wf ∧ x.size = sz) (i : Nat) : leavesL (xs.take i) = (leavesL xs).take (i * sz) := by
  rcases Nat.lt_or_ge i xs.length with h' | h'
  · exact leavesL_take sz xs h i (Nat.le_of_lt h')
  · rw [List.take_of_length_le h', List.take_of_length_le]
    have := leavesL_pre sz xs h xs.length (Nat.le_refl _)
    rw [List.take_length] at this
    rw [this]
    exact Nat.mul_le_mul_right _ h'

theorem leavesL_elem (sz : Nat) (xs : List Tr) (h : ∀ x ∈ xs, x.wf ∧ x.size = sz) (i : Nat) (x : Tr) (hx : xs[i]? = some x) (j : Nat) (l : Tr) (hj : x.leaves[j]? = some l) :
    (leavesL xs)[i * sz + j]? = some l := by
  have hi : i < xs.length := (List.getElem?_eq_some_iff.1 hx).1
  have hpre := leavesL_pre sz xs h i (Nat.le_of_lt hi)
  have hjl : j < x.leaves.length := (List.getElem?_eq_some_iff.1 hj).1
  rw [leavesL_split xs i x hx, List.getElem?_append_right (by omega), hpre, List.getElem?_append_left (by omega)]
  rw [show i * sz + j - i * sz = j by omega]
  exact hj

section
variable {P : Program} {Θ : Tab} (hΘ : TabOK P Θ) {Φ : Base} {M : Mem}

theorem map_get {α β : Type} (f : α → β) (l : List α) (i : Nat) (b : β) (h : (l.map f)[i]? = some b) : ∃ a, l[i]? = some a ∧ f a = b := by
  rw [List.getElem?_map] at h
  exact Option.map_eq_some_iff.1 h

include hΘ in
theorem fieldAddr_sound {t : TypeId} {x r : Tr} {f : Nat} {v : Value} (hv : VR M x v) (h : aFieldAddr Θ M.H t x f = some r) :
    ∃ u, (Instr.fieldAt t v f).run P M.w = .ok u M.w ∧ VR M r u := by
  unfold aFieldAddr at h
  split at h
  · rename_i i hi
    split at h
    · rename_i offs tys hk
      split at h
      · rename_i o tf ho htf
        split at h
        · rename_i ti hti
          split at h
          · cases h
          · rename_i hz
            have hu := (hΘ t i hi).und
            rw [hk] at hu
            obtain ⟨fs, hu, hofs, htys, _⟩ := hu
            rw [← hofs] at ho
            rw [← htys] at htf
            obtain ⟨fl, hfl, rfl⟩ := map_get _ _ _ _ ho
            obtain ⟨fl', hfl', rfl⟩ := map_get _ _ _ _ htf
            rw [hfl] at hfl'
            obtain rfl := Option.some.inj hfl'
            have hfa : fs[f]? = some fl := by simpa using hfl
            have key : ∀ a : Addr, v = .pointer (some a) → (Instr.fieldAt t v f).run P M.w = .ok (.pointer (some (a.add fl.offset))) M.w := by
              intro a ha
              simp only [Instr.fieldAt, Sem.run_bind, run_underlying hu, Result.andThen_ok, hfa, ha, Instr.sureAddr, Sem.run_pure, fieldPlace, run_sizeOf hΘ hti, hz, if_false]
            split at h
            · rename_i d g p off
              split at h
              · rename_i hg
                simp only [Option.some.injEq] at h
                subst h
                obtain ⟨b, K, hb, hve⟩ := hv.ptr_inv hg
                refine ⟨_, key _ hve, ?_⟩
                rw [add_mk]
                exact .ptr rfl (by omega) fun _ => ⟨b, K, hb, rfl⟩
              · cases h
            · rename_i sz os xs
              split at h
              · rename_i hos
                obtain ⟨y, hy, rfl⟩ := Option.map_eq_some_iff.1 h
                obtain ⟨a, vs, hve, hsp, hI, hw, hc, hl⟩ := hv.iptr_inv
                refine ⟨_, key _ hve, ?_⟩
                have hofo : os[f]? = some fl.offset := by rw [hos, ← hofs, List.getElem?_map, hfl]; rfl
                have hat : Tr.atF 0 [f] (.node sz os xs) = some (0 + fl.offset, y) := by simp [Tr.atF, hofo, hy]
                obtain ⟨hyw, k, hk', hle, hlv⟩ := at_leaves _ _ _ _ _ hw hat
                have hk'' : k = fl.offset := by omega
                subst hk''
                have hyl := leaves_length y hyw
                have hsh : ∀ j l, y.leaves[j]? = some l → (Tr.node sz os xs).leaves[fl.offset + j]? = some l := by
                  intro j l hj
                  have hjl : j < y.leaves.length := (List.getElem?_eq_some_iff.1 hj).1
                  rw [← hlv, List.getElem?_take, if_pos (by omega), List.getElem?_drop] at hj
                  exact hj
                refine .iptr (fun j => vs (fl.offset + j)) (add_spot _ _ hsp) (by rw [add_block]; exact hI) hyw (fun j l hj => ?_) (fun j l hj => hl _ _ (hsh j l hj))
                rw [add_add]
                exact hc _ _ (hsh j l hj)
              · cases h
            · cases h
        · cases h
      · cases h
    · cases h
  · cases h

include hΘ in
theorem part_sound {t : TypeId} {i : TyI} (ht : Θ t = some i) {sub : Tr} {cs : Array Value} {off : Nat} (hw : sub.wf) (hg : sub.good = true) (hs : sub.size = i.size) (ha : sub.isAgg = i.kind.isAgg)
    (hle : off + sub.size ≤ cs.size) (hl : ∀ j l, sub.leaves[j]? = some l → VR M l (cs.getD (off + j) undef)) :
    ∃ u, (part t cs off).run P M.w = .ok u M.w ∧ VR M sub u := by
  have hlen := leaves_length sub hw
  let ds : List Value := (cs.extract off (off + sub.size)).toList
  have hds : ds.length = sub.size := by simp [ds]; omega
  have hdg : ∀ j, j < sub.size → ds[j]? = some (cs.getD (off + j) undef) := by
    intro j hj
    have h1 : off + j < cs.size := by omega
    simp only [ds, Array.getElem?_toList, Array.getElem?_extract]
    rw [if_pos (by omega)]
    simp [h1]
  have hof := VR.of_cells (M := M) hw hg ds hds (fun j l hj => by
    have hjl : j < sub.size := by have := (List.getElem?_eq_some_iff.1 hj).1; omega
    exact ⟨_, hdg j hjl, hl j l hj⟩)
  cases hag : i.kind.isAgg with
  | true =>
    refine ⟨.agg ds.toArray, ?_, hof.1 (ha.trans hag)⟩
    simp only [part, Sem.run_bind, run_isAgg hΘ ht, hag, Result.andThen_ok, if_true, run_sizeOf hΘ ht, ← hs, Sem.run_pure]
    simp only [ds, Array.toArray_toList]
  | false =>
    obtain ⟨c, he, hv⟩ := hof.2 (ha.trans hag)
    refine ⟨c, ?_, hv⟩
    have h0 : 0 < sub.size := by rw [← hds, he]; simp
    have h1 := hdg 0 h0
    rw [he] at h1
    simp only [List.getElem?_cons_zero, Option.some.injEq, Nat.add_zero] at h1
    have h2 : off < cs.size := by omega
    have h3 : cs[off]? = some c := by rw [h1]; simp [h2]
    simp only [part, Sem.run_bind, run_isAgg hΘ ht, hag, Result.andThen_ok, Bool.false_eq_true, if_false, h3, Sem.run_pure]

include hΘ in
theorem field_sound {t : TypeId} {x r : Tr} {f : Nat} {v : Value} (hv : VR M x v) (h : aField Θ t x f = some r) :
    ∃ u, (Instr.field t v f).run P M.w = .ok u M.w ∧ VR M r u := by
  unfold aField at h
  split at h
  · rename_i i hi
    split at h
    · rename_i offs tys sz os xs hk
      split at h
      · rename_i tf y htf hy
        split at h
        · rename_i ti hti
          split at h
          · rename_i hc
            obtain ⟨hos, hys, hya, hyg⟩ := hc
            obtain rfl := Option.some.inj h
            have hu := (hΘ t i hi).und
            rw [hk] at hu
            obtain ⟨fs, hu, hofs, htys, _⟩ := hu
            rw [← htys] at htf
            obtain ⟨fl, hfl, rfl⟩ := map_get _ _ _ _ htf
            have hfa : fs[f]? = some fl := by simpa using hfl
            obtain ⟨cs, rfl, hw, hsz, hl⟩ := hv.agg_inv rfl
            have hofo : os[f]? = some fl.offset := by rw [hos, ← hofs, List.getElem?_map, hfl]; rfl
            have hat : Tr.atF 0 [f] (.node sz os xs) = some (0 + fl.offset, y) := by simp [Tr.atF, hofo, hy]
            obtain ⟨hyw, k, hk', hle, hlv⟩ := at_leaves _ _ _ _ _ hw hat
            have hk'' : k = fl.offset := by omega
            subst hk''
            have hyl := leaves_length y hyw
            obtain ⟨u, hr, hvu⟩ := part_sound (P := P) (M := M) hΘ hti (cs := cs) (off := fl.offset) hyw hyg hys hya (by rw [hsz]; exact hle) (fun j l hj => by
              refine hl _ _ ?_
              have hjl : j < y.leaves.length := (List.getElem?_eq_some_iff.1 hj).1
              rw [← hlv, List.getElem?_take, if_pos (by omega), List.getElem?_drop] at hj
              exact hj)
            refine ⟨u, ?_, hvu⟩
            simp only [Instr.field, Sem.run_bind, run_underlying hu, Result.andThen_ok, hfa, asAgg, Sem.run_pure, hr]
          · cases h
        · cases h
      · cases h
    · cases h
  · cases h

theorem IntOf {k : IntKind} {n : Int} {v : Value} (h : VR M (.int k n) v) : v = .int k n := h.int_inv

include hΘ in
theorem indexAddr_sound {t : TypeId} {x i r : Tr} {v vi : Value} (hv : VR M x v) (hvi : VR M i vi) (h : aIndexAddr Θ M.H t x i = some r) :
    ∃ u, (Instr.indexAt t v vi).run P M.w = .ok u M.w ∧ VR M r u := by
  unfold aIndexAddr at h
  split at h
  · rename_i ti k n hti
    obtain rfl := hvi.int_inv
    split at h
    · rename_i e hk
      have hu := (hΘ t ti hti).und
      rw [hk] at hu
      split at h
      · rename_i ei hei
        split at h
        · rename_i sz xs
          split at h
          · rename_i hc
            obtain ⟨hsz, h0⟩ := hc
            obtain ⟨y, hy, rfl⟩ := Option.map_eq_some_iff.1 h
            obtain ⟨a, cap, vs, rfl, hcap, hnil, hw, hI, hcell, hl⟩ := hv.sl_inv
            have hlt : n.toNat < xs.length := (List.getElem?_eq_some_iff.1 hy).1
            cases a with
            | none => have := hnil rfl; omega
            | some ad =>
              obtain ⟨hsp, hIm⟩ := hI ad rfl (by omega)
              refine ⟨.pointer (some (ad.add (n.toNat * sz))), ?_, ?_⟩
              · simp only [Instr.indexAt, asIntOf, Sem.run_bind, Sem.run_pure, Result.andThen_ok, run_underlying hu]
                rw [hsz]
                simp only [show (0 ≤ n ∧ n < (xs.length : Int)) = True from by simp; omega, if_true, Sem.run_bind, run_sizeOf hΘ hei, Result.andThen_ok, Sem.run_pure]
              · have hyw := (hw y (List.mem_of_getElem? hy)).1
                refine .iptr (fun j => vs (n.toNat * sz + j)) (add_spot _ _ hsp) (by rw [add_block]; exact hIm) hyw (fun j l hj => ?_) (fun j l hj => hl _ _ (leavesL_elem sz xs hw _ _ hy j l hj))
                obtain ⟨ad', e1, e2⟩ := hcell _ _ (leavesL_elem sz xs hw _ _ hy j l hj)
                obtain rfl := Option.some.inj e1
                rw [add_add]
                exact e2
          · cases h
        · rename_i d g lo len
          split at h
          · rename_i g' e' sz xs hd
            split at h
            · rename_i hc
              obtain ⟨rfl, hsz, h0, hlt, hle⟩ := hc
              obtain rfl := Option.some.inj h
              have ho := hv.own_inv hd
              unfold OwnV at ho
              cases hb : M.β d with
              | none => rw [hb] at ho; simp only at ho; omega
              | some bK =>
                obtain ⟨b, K⟩ := bK
                rw [hb] at ho
                obtain ⟨ad, rfl, hK, had⟩ := ho
                obtain rfl := had (by omega)
                refine ⟨.pointer (some ((⟨b, lo * sz, none⟩ : Addr).add (n.toNat * sz))), ?_, ?_⟩
                · simp only [Instr.indexAt, asIntOf, Sem.run_bind, Sem.run_pure, Result.andThen_ok, run_underlying hu]
                  simp only [show (0 ≤ n ∧ n < (len : Int)) = True from by simp; omega, if_true, Sem.run_bind, run_sizeOf hΘ hei, Result.andThen_ok, Sem.run_pure, hsz]
                · rw [add_mk]
                  refine .ptr rfl (by simp [hd]) fun _ => ⟨b, K, hb, ?_⟩
                  rw [Nat.add_mul]
            · cases h
          · cases h
        · cases h
      · cases h
    · rename_i m e hk
      have hu := (hΘ t ti hti).und
      rw [hk] at hu
      split at h
      · rename_i ei hei
        split at h
        · rename_i d g p off
          split at h
          · rename_i hc
            obtain ⟨hg, h0, hlt⟩ := hc
            obtain rfl := Option.some.inj h
            obtain ⟨b, K, hb, rfl⟩ := hv.ptr_inv hg
            refine ⟨.pointer (some ((⟨b, off, none⟩ : Addr).add (n.toNat * ei.size))), ?_, ?_⟩
            · simp only [Instr.indexAt, asIntOf, Sem.run_bind, Sem.run_pure, Result.andThen_ok, run_underlying hu.1, Instr.sureAddr]
              simp only [show (0 ≤ n ∧ n < (m : Int)) = True from by simp; omega, if_true, Sem.run_bind, run_sizeOf hΘ hei, Result.andThen_ok, Sem.run_pure]
            · rw [add_mk]
              exact .ptr rfl (by omega) fun _ => ⟨b, K, hb, rfl⟩
          · cases h
        · rename_i sz xs
          split at h
          · rename_i hc
            obtain ⟨hsz, h0, hlt⟩ := hc
            obtain ⟨y, hy, rfl⟩ := Option.map_eq_some_iff.1 h
            obtain ⟨a, vs, rfl, hsp, hI, hw, hcell, hl⟩ := hv.iptr_inv
            simp only [Tr.wf] at hw
            have hws : ∀ z ∈ xs, z.wf ∧ z.size = sz := fun z hz => ⟨(wfL_iff _).1 hw.2 z hz, hw.1 z hz⟩
            refine ⟨.pointer (some (a.add (n.toNat * ei.size))), ?_, ?_⟩
            · simp only [Instr.indexAt, asIntOf, Sem.run_bind, Sem.run_pure, Result.andThen_ok, run_underlying hu.1, Instr.sureAddr]
              simp only [show (0 ≤ n ∧ n < (m : Int)) = True from by simp; omega, if_true, Sem.run_bind, run_sizeOf hΘ hei, Result.andThen_ok, Sem.run_pure]
            · have hyw := (hws y (List.mem_of_getElem? hy)).1
              have hsh : ∀ j l, y.leaves[j]? = some l → (Tr.arr sz xs).leaves[n.toNat * sz + j]? = some l := fun j l hj => by
                simpa [Tr.leaves] using leavesL_elem sz xs hws _ _ hy j l hj
              rw [← hsz]
              refine .iptr (fun j => vs (n.toNat * sz + j)) (add_spot _ _ hsp) (by rw [add_block]; exact hI) hyw (fun j l hj => ?_) (fun j l hj => hl _ _ (hsh j l hj))
              rw [add_add]
              exact hcell _ _ (hsh j l hj)
          · cases h
        · cases h
      · cases h
    · cases h
  · cases h

include hΘ in
theorem index_sound {t : TypeId} {x i r : Tr} {v vi : Value} (hv : VR M x v) (hvi : VR M i vi) (h : aIndex Θ t x i = some r) :
    ∃ u, (Instr.index t v vi).run P M.w = .ok u M.w ∧ VR M r u := by
  unfold aIndex at h
  split at h
  · rename_i ti s k n hti
    obtain rfl := hvi.int_inv
    obtain rfl := hv.str_inv
    split at h
    · rename_i hk
      have hu := (hΘ t ti hti).und
      rw [hk] at hu
      split at h
      · rename_i h0
        obtain ⟨b, hb, rfl⟩ := Option.map_eq_some_iff.1 h
        refine ⟨.int .u8 b.toNat, ?_, .int _ _⟩
        simp only [Instr.index, asIntOf, Sem.run_bind, Sem.run_pure, Result.andThen_ok, run_underlying hu, h0, if_true, hb]
      · cases h
    · cases h
  · rename_i ti sz xs k n hti
    obtain rfl := hvi.int_inv
    split at h
    · rename_i m e hk
      have hu := (hΘ t ti hti).und
      rw [hk] at hu
      split at h
      · rename_i ei y hei hy
        split at h
        · rename_i hc
          obtain ⟨hsz, h0, hlt, hya, hyg⟩ := hc
          obtain rfl := Option.some.inj h
          obtain ⟨cs, rfl, hw, hcs, hl⟩ := hv.agg_inv rfl
          simp only [Tr.wf] at hw
          have hws : ∀ z ∈ xs, z.wf ∧ z.size = sz := fun z hz => ⟨(wfL_iff _).1 hw.2 z hz, hw.1 z hz⟩
          have hy2 := hws y (List.mem_of_getElem? hy)
          have hyi : n.toNat < xs.length := (List.getElem?_eq_some_iff.1 hy).1
          obtain ⟨u, hr, hvu⟩ := part_sound (P := P) (M := M) hΘ hei (cs := cs) (off := n.toNat * sz) hy2.1 hyg (hy2.2.trans hsz) hya (by
              rw [hcs, size_arr, hy2.2]
              have : (n.toNat + 1) * sz ≤ xs.length * sz := Nat.mul_le_mul_right _ (by omega)
              rw [Nat.add_mul, Nat.one_mul] at this
              rw [Nat.mul_comm sz]; exact this) (fun j l hj => by
              refine hl _ _ ?_
              simpa [Tr.leaves] using leavesL_elem sz xs hws _ _ hy j l hj)
          refine ⟨u, ?_, hvu⟩
          simp only [Instr.index, asIntOf, Sem.run_bind, Sem.run_pure, Result.andThen_ok, run_underlying hu.1]
          simp only [show (0 ≤ n ∧ n < (m : Int)) = True from by simp; omega, if_true, Sem.run_bind, run_sizeOf hΘ hei, Result.andThen_ok, ← hsz, hr]
        · cases h
      · cases h
    · cases h
  · cases h

theorem bound_run {x : Option Tr} {v : Option Value} {y : Nat} {code : BoundsCode} {dflt : Nat} {n : Int} {w : World}
    (hv : ∀ t, x = some t → ∃ u, v = some u ∧ VR M t u) (hn : x = none → v = none) (h : aBound x dflt = some n) (h0 : 0 ≤ n) (h1 : n ≤ y) :
    (match v with | some v => Instr.sliceBound v y code | none => (pure dflt : Sem Nat)).run P w = .ok n.toNat w := by
  cases x with
  | none =>
    rw [hn rfl]
    simp only [aBound, Option.some.injEq] at h
    subst h
    simp
  | some t =>
    obtain ⟨u, rfl, hu⟩ := hv t rfl
    cases t <;> simp only [aBound, Option.some.injEq, reduceCtorEq] at h
    rename_i k n'
    subst h
    obtain rfl := hu.int_inv
    simp only [Instr.sliceBound, asIntOf, Sem.run_bind, Sem.run_pure, Result.andThen_ok, Sem.run_ite]
    rw [if_pos ⟨h0, h1⟩]

/-- The bounds of a cut. -/
theorem bounds_run {lo hi : Option Tr} {vlo vhi : Option Value} {isS : Bool} {len cap : Nat} {l h : Int} {w : World}
    (hlo : ∀ t, lo = some t → ∃ u, vlo = some u ∧ VR M t u) (hlo' : lo = none → vlo = none) (hhi : ∀ t, hi = some t → ∃ u, vhi = some u ∧ VR M t u) (hhi' : hi = none → vhi = none)
    (el : aBound lo 0 = some l) (eh : aBound hi len = some h) (h0 : 0 ≤ l) (h1 : l ≤ h) (h2 : h ≤ cap) :
    (Instr.sliceBounds isS len cap vlo vhi none).run P w = .ok (l.toNat, h.toNat, cap) w := by
  have e1 := bound_run (P := P) (w := w) (code := if isS then .sliceAcap else .sliceAlen) (y := cap) (dflt := len) hhi hhi' eh (by omega) h2
  have e2 := bound_run (P := P) (w := w) (code := .sliceB) (y := h.toNat) (dflt := 0) hlo hlo' el h0 (by omega)
  cases vhi <;> cases vlo <;> simp_all [Instr.sliceBounds, Sem.run_bind, Result.andThen_ok]

include hΘ in
theorem slice_sound {t : TypeId} {x r : Tr} {lo hi : Option Tr} {v : Value} {vlo vhi : Option Value} (hv : VR M x v)
    (hlo : ∀ t, lo = some t → ∃ u, vlo = some u ∧ VR M t u) (hlo' : lo = none → vlo = none) (hhi : ∀ t, hi = some t → ∃ u, vhi = some u ∧ VR M t u) (hhi' : hi = none → vhi = none)
    (h : aSlice Θ M.H t x lo hi = some r) :
    ∃ u, (Instr.sliceAt t v vlo vhi none).run P M.w = .ok u M.w ∧ VR M r u := by
  unfold aSlice at h
  split at h
  · rename_i ti hti
    have hu := (hΘ t ti hti).und
    split at h
    · rename_i s hk
      rw [hk] at hu
      split at h
      · rename_i l h' el eh
        split at h
        · rename_i hc
          obtain rfl := Option.some.inj h
          obtain rfl := hv.str_inv
          refine ⟨.string (s.extract l.toNat h'.toNat), ?_, .str _⟩
          have hb := bounds_run (P := P) (w := M.w) (isS := false) (len := s.size) (cap := s.size) hlo hlo' hhi hhi' el eh hc.1 hc.2.1 hc.2.2
          simp only [Instr.sliceAt, Sem.run_bind, run_underlying hu, Result.andThen_ok, Instr.slice, Option.isSome_none, Bool.false_eq_true, if_false, hb, Sem.run_pure]
        · cases h
      · cases h
    · rename_i e sz xs hk
      rw [hk] at hu
      split at h
      · rename_i ei l h' hei el eh
        split at h
        · rename_i hc
          obtain ⟨hsz, h0, h1, h2⟩ := hc
          obtain rfl := Option.some.inj h
          obtain ⟨a, cap, vs, rfl, hcap, hnil, hw, hI, hcell, hl⟩ := hv.sl_inv
          have hb := bounds_run (P := P) (w := M.w) (isS := true) (len := xs.length) (cap := cap) hlo hlo' hhi hhi' el eh h0 h1 (by omega)
          have hlen : ((xs.take h'.toNat).drop l.toNat).length = h'.toNat - l.toNat := by simp; omega
          refine ⟨.slice (if cap = l.toNat then a else a.map (·.add (l.toNat * sz))) ((xs.take h'.toNat).drop l.toNat).length (cap - l.toNat), ?_, ?_⟩
          · simp only [Instr.sliceAt, Sem.run_bind, run_underlying hu, Result.andThen_ok, Instr.slice, hb, run_sizeOf hΘ hei, Sem.run_pure, hlen, hsz]
          · have hlv : leavesL ((xs.take h'.toNat).drop l.toNat) = ((leavesL xs).take (h'.toNat * sz)).drop (l.toNat * sz) := by
              rw [leavesL_drop sz _ (fun z hz => hw z (List.mem_of_mem_take hz)) _ (by simp; omega), leavesL_take sz _ hw _ (by omega)]
            have hsub : ∀ j lf, (leavesL ((xs.take h'.toNat).drop l.toNat))[j]? = some lf → (leavesL xs)[l.toNat * sz + j]? = some lf := by
              intro j lf hj
              rw [hlv, List.getElem?_drop, List.getElem?_take] at hj
              split at hj
              · exact hj
              · cases hj
            refine .sl (fun j => vs (l.toNat * sz + j)) (by omega) (fun ha => ?_) (fun z hz => hw z (List.mem_of_mem_take (List.mem_of_mem_drop hz))) (fun ad ha hp => ?_) (fun j lf hj => ?_) (fun j lf hj => hl _ _ (hsub j lf hj))
            · split at ha
              · have := hnil ha; omega
              · have : a = none := by simpa using ha
                have := hnil this; omega
            · have hne : ¬ cap = l.toNat := by omega
              rw [if_neg hne] at ha
              obtain ⟨ad0, rfl, rfl⟩ := Option.map_eq_some_iff.1 ha
              obtain ⟨i1, i2⟩ := hI ad0 rfl (by omega)
              exact ⟨add_spot _ _ i1, by rw [add_block]; exact i2⟩
            · obtain ⟨ad0, rfl, e2⟩ := hcell _ _ (hsub j lf hj)
              have hne : ¬ cap = l.toNat := by
                intro hcl
                have : ((xs.take h'.toNat).drop l.toNat) = [] := by apply List.eq_nil_of_length_eq_zero; omega
                rw [this] at hj
                simp [leavesL] at hj
              rw [if_neg hne]
              exact ⟨_, rfl, by rw [add_add]; exact e2⟩
        · cases h
      · cases h
    · rename_i e d g lo0 len hk
      rw [hk] at hu
      split at h
      · rename_i ei g' e' sz xs l h' hei hd el eh
        split at h
        · rename_i hc
          obtain ⟨rfl, hsz, h0, h1, h2⟩ := hc
          obtain rfl := Option.some.inj h
          have ho := hv.own_inv hd
          unfold OwnV at ho
          cases hb : M.β d with
          | none =>
            rw [hb] at ho
            obtain ⟨rfl, rfl, rfl⟩ := ho
            have el0 : l.toNat = 0 := by omega
            have eh0 : h'.toNat = 0 := by omega
            have hbr := bounds_run (P := P) (w := M.w) (isS := true) (len := 0) (cap := 0) hlo hlo' hhi hhi' el eh h0 h1 (by omega)
            refine ⟨.slice none 0 0, ?_, ?_⟩
            · simp only [Instr.sliceAt, Sem.run_bind, run_underlying hu, Result.andThen_ok, Instr.slice, hbr, run_sizeOf hΘ hei, Sem.run_pure, el0, eh0]
              simp
            · refine .own rfl (by simp [hd]) fun e2 sz2 xs2 hd2 => ?_
              unfold OwnV
              rw [hb]
              simp [el0, eh0]
          | some bK =>
            obtain ⟨b, K⟩ := bK
            rw [hb] at ho
            obtain ⟨ad, rfl, hK, had⟩ := ho
            have hbr := bounds_run (P := P) (w := M.w) (isS := true) (len := len) (cap := K - lo0) hlo hlo' hhi hhi' el eh h0 h1 (by omega)
            refine ⟨.slice (if K - lo0 = l.toNat then some ad else some (ad.add (l.toNat * sz))) (h'.toNat - l.toNat) (K - lo0 - l.toNat), ?_, ?_⟩
            · simp only [Instr.sliceAt, Sem.run_bind, run_underlying hu, Result.andThen_ok, Instr.slice, hbr, run_sizeOf hΘ hei, Sem.run_pure, hsz, Option.map_some]
            · refine .own (by rfl) (by simp [hd]) fun e2 sz2 xs2 hd2 => ?_
              rw [hd] at hd2
              simp only [Prod.mk.injEq, AObj.row.injEq, true_and] at hd2
              obtain ⟨_, hsz2, _⟩ := hd2
              subst hsz2
              unfold OwnV
              rw [hb]
              refine ⟨if K - lo0 = l.toNat then ad else ad.add (l.toNat * sz), ?_, by omega, fun hlt => ?_⟩
              · split <;> simp <;> omega
              · rw [if_neg (by omega), had (by omega), add_mk, Nat.add_mul]
        · cases h
      · cases h
    · rename_i e hk
      rw [hk] at hu
      split at h
      · rename_i ei hei el eh
        obtain rfl := Option.some.inj h
        obtain rfl := hv.nils_inv
        have hbr := bounds_run (P := P) (w := M.w) (isS := true) (len := 0) (cap := 0) hlo hlo' hhi hhi' el eh (by omega) (by omega) (by omega)
        refine ⟨.slice none 0 0, ?_, .nils⟩
        simp only [Instr.sliceAt, Sem.run_bind, run_underlying hu, Result.andThen_ok, Instr.slice, hbr, run_sizeOf hΘ ‹_›, Sem.run_pure]
        simp
      · cases h
    · cases h
  · cases h

end
end Go.Proofs.Ytnonimnhninafaa.Ab
