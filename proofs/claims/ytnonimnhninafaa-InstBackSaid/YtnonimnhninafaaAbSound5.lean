/- Each operation yields what the plain functions say: building, appending, copying; all operations. -/
import Derived.Test.YtnonimnhninafaaAbSound4
namespace Go.Proofs.Ytnonimnhninafaa.Ab
open Go
set_option linter.unusedVariables false
set_option linter.unusedSimpArgs false

section
variable {P : Program} {Θ : Tab} (hΘ : TabOK P Θ) {Φ : Base} {M : Mem}

theorem parts_of {rd : Operand → Tr} {ρ : Operand → Value} (hr : ∀ x, VR M (rd x) (ρ x)) : ∀ l : List (Nat × Operand), PartsR M (l.map fun p => (p.1, rd p.2)) (l.map fun (i, x) => (i, ρ x))
  | [] => .nil
  | p :: l => .cons ⟨rfl, hr _⟩ (parts_of hr l)

include hΘ in
theorem places_run (w : World) : ∀ (fs : List Field) (szs : List Nat), sizesOf Θ (fs.map (·.type)) = some szs →
    (fs.mapM (fun f => do pure (f.offset, ← sizeOf f.type)) : Sem (List (Nat × Nat))).run P w = .ok ((fs.map (·.offset)).zip szs) w
  | [], szs, h => by
    simp only [List.map_nil, sizesOf, Option.some.injEq] at h
    subst h; simp
  | f :: fs, szs, h => by
    simp only [List.map_cons, sizesOf] at h
    split at h
    · rename_i i l hi hl
      obtain rfl := Option.some.inj h
      have ih := places_run w fs l hl
      simp only [List.mapM_cons, Sem.run_bind, run_sizeOf hΘ hi, Result.andThen_ok, Sem.run_pure, ih, List.map_cons, List.zip_cons_cons]
    · cases h

theorem place_fn (offs szs : List Nat) : (fun (j : Nat) => ((offs.zip szs).toArray)[j]?) = placeOf offs szs := by
  funext j
  unfold placeOf
  rw [List.getElem?_toArray, List.zip_eq_zipWith, List.getElem?_zipWith]
  cases offs[j]? <;> cases szs[j]? <;> rfl

include hΘ in
theorem build_sound {t : TypeId} {i : TyI} (ht : Θ t = some i) (hg : i.zero.good = true) {rd : Operand → Tr} {ρ : Operand → Value} (hr : ∀ x, VR M (rd x) (ρ x)) (ps : Array (Nat × Operand)) {val : Tr}
    (h : aBuild Θ i (ps.toList.map fun p => (p.1, rd p.2)) = some val) :
    ∃ v, (Instr.build t (ps.map fun (i, x) => (i, ρ x))).run P M.w = .ok v M.w ∧ VR M val v := by
  obtain ⟨hzw, hzs, inf, z, h1, hz, h2, h3, hzc, hzh⟩ := zero_ok hΘ ht hg
  have hzv : (zeroValue t).run P M.w = .ok z M.w := by simp [zeroValue, typeInfo, h1, hz]
  have hu := (hΘ t i ht).und
  obtain ⟨inf', h1', _, _, h4⟩ := (hΘ t i ht).info
  have hza := (h4 hg).2.2.1
  have hps : (ps.map fun (i, x) => (i, ρ x)).toList = ps.toList.map fun (i, x) => (i, ρ x) := by simp
  unfold aBuild at h
  split at h
  · rename_i offs tys hk
    rw [hk] at hu hza
    obtain ⟨fs, hu, hofs, htys, _⟩ := hu
    split at h
    · rename_i szs hsz
      rw [← htys] at hsz
      obtain ⟨c', hf, hw', hg', ha', hs', hcs', hh'⟩ := fill_parts _ _ _ _ _ z.cells (parts_of hr ps.toList) h hzw hg (by omega) (hzh M)
      refine ⟨.agg c', ?_, .agg (by rw [ha', hza]; rfl) hw' (by omega) hh'⟩
      have hpl := places_run (P := P) hΘ M.w fs.toList szs hsz
      rw [hofs] at hpl
      simp only [Instr.build, Sem.run_bind, hzv, Result.andThen_ok, run_underlying hu, Array.mapM_eq_mapM_toList, Sem.run_map, hpl, hps]
      rw [place_fn, hf]
      rfl
    · cases h
  · rename_i m e hk
    rw [hk] at hu hza
    split at h
    · rename_i ei hei
      obtain ⟨c', hf, hw', hg', ha', hs', hcs', hh'⟩ := fill_parts _ _ _ _ _ z.cells (parts_of hr ps.toList) h hzw hg (by omega) (hzh M)
      refine ⟨.agg c', ?_, .agg (by rw [ha', hza]; rfl) hw' (by omega) hh'⟩
      simp only [Instr.build, Sem.run_bind, hzv, Result.andThen_ok, run_underlying hu.1, run_sizeOf hΘ hei, hps]
      rw [hf]
      rfl
    · cases h
  · cases h

theorem zeros_hold {e : TypeId} {ei : TyI} {z : Value} (n : Nat) (h0 : 0 < ei.size) (hw : ei.zero.wf) (hs : ei.zero.size = ei.size) (hzc : z.cells.size = ei.size) (hzh : Holds M ei.zero.leaves z.cells) :
    Holds M (leavesL (List.replicate n ei.zero)) ((Array.range (n * ei.size)).map (z.cells[· % z.cells.size]!)) := by
  intro j l hj
  obtain ⟨h1, h2⟩ := leavesL_replicate n ei.size ei.zero hw hs h0 j l hj
  have h3 := hzh _ _ h1
  have h4 : j % ei.size < z.cells.size := by rw [hzc]; exact Nat.mod_lt _ h0
  have e1 : ((Array.range (n * ei.size)).map (z.cells[· % z.cells.size]!)).getD j undef = z.cells.getD (j % ei.size) undef := by
    simp only [Array.getD_eq_getD_getElem?, Array.getElem?_map, Array.getElem?_range, h2, if_true, Option.map_some, Option.getD_some, hzc]
    rw [getElem!_pos z.cells (j % ei.size) h4, Array.getElem?_eq_getElem h4]
    rfl
  rw [e1]
  exact h3

include hΘ in
theorem buildSlice_sound (ok : MemOK M) (fr : Fr Φ M) (L : Nat) {t e : TypeId} {i ei : TyI} (ht : Θ t = some i) (hk : i.kind = .slice e) (he : Θ e = some ei) (hg : ei.zero.good = true) (h0 : 0 < ei.size) (len : Nat) (hlen : len * ei.size ≤ 2 ^ 24)
    {rd : Operand → Tr} {ρ : Operand → Value} (hr : ∀ x, VR M (rd x) (ρ x)) (ps : Array (Nat × Operand)) {xs : List Tr} (h : setElems ei.size (ps.toList.map fun p => (p.1, rd p.2)) (List.replicate len ei.zero) = some xs) :
    ∃ v M', (Instr.buildSlice t len (ps.map fun (i, x) => (i, ρ x))).run P M.w = .ok v M'.w ∧ M'.H = upd M.H L ((M.H L).1 + 1, .row e ei.size xs) ∧ MemOK M' ∧ Fr Φ M' ∧ Mono M M' ∧ VR M' (.own L ((M.H L).1 + 1) 0 len) v := by
  obtain ⟨hzw, hzs, inf, z, h1, hz, h2, h3, hzc, hzh⟩ := zero_ok hΘ he hg
  have hzv : (zeroValue e).run P M.w = .ok z M.w := by simp [zeroValue, typeInfo, h1, hz]
  have hu := (hΘ t i ht).und
  rw [hk] at hu
  have hps : (ps.map fun (i, x) => (i, ρ x)).toList = ps.toList.map fun (i, x) => (i, ρ x) := by simp
  have hws : ∀ x ∈ List.replicate len ei.zero, x.wf ∧ x.size = ei.size := fun x hx => by obtain rfl := List.eq_of_mem_replicate hx; exact ⟨hzw, hzs⟩
  obtain ⟨c', hf, hw', hl', hcs', hh'⟩ := fill_elems ei.size _ _ _ _ ((Array.range (len * ei.size)).map (z.cells[· % z.cells.size]!)) (parts_of hr ps.toList) h hws (by simp) (zeros_hold (e := e) len h0 hzw hzs hzc (hzh M))
  have hl2 : xs.length = len := by simpa using hl'
  have hmax : len ≤ maxLen := by
    have : len * 1 ≤ len * ei.size := Nat.mul_le_mul_left _ h0
    simp only [maxLen]; omega
  obtain ⟨ok', fr', hm, hv⟩ := newRow_sound ok fr L (e := e) (K := len) h0 hw' (by rw [hcs', hl2]) hl2 (Nat.le_refl _) hmax hh'
  refine ⟨_, _, ?_, rfl, ok', fr', hm, hv⟩
  have hn : ¬ (len * ei.size > 2 ^ 24) := by omega
  by_cases hz0 : len * ei.size = 0
  · have hbase : ((Array.range (len * ei.size)).map (z.cells[· % z.cells.size]!)) = (#[] : Array Value) := by rw [hz0]; simp
    rw [hbase] at hf
    simp only [Instr.buildSlice, Sem.run_bind, run_underlying hu, Result.andThen_ok, run_sizeOf hΘ he, hn, if_false, hz0, if_true, Sem.run_pure, hps]
    simp only [Array.range_zero', Array.map_empty, hf]
    simp [newRow, Mem.allocAt]
  · simp only [Instr.buildSlice, Sem.run_bind, run_underlying hu, Result.andThen_ok, run_sizeOf hΘ he, hn, if_false, hz0, hzv, Sem.run_pure, hps]
    simp only [hf]
    simp [newRow, Mem.allocAt]

include hΘ in
theorem makeSlice_sound (ok : MemOK M) (fr : Fr Φ M) (L : Nat) {t : TypeId} {x y : Tr} {vx vy : Value} {f : Eff} (hx : VR M x vx) (hy : VR M y vy) (h : aMakeSlice Θ M.H L t x y = some f) :
    ∃ v M', (Instr.makeSlice t vx vy).run P M.w = .ok v M'.w ∧ M'.H = f.heap M.H ∧ MemOK M' ∧ Fr Φ M' ∧ Mono M M' ∧ VR M' f.val v := by
  unfold aMakeSlice at h
  split at h
  · rename_i ti k1 n k2 m hti
    obtain rfl := hx.int_inv
    obtain rfl := hy.int_inv
    split at h
    · rename_i e hk
      have hu := (hΘ t ti hti).und
      rw [hk] at hu
      split at h
      · rename_i ei hei
        split at h
        · rename_i hc
          obtain ⟨hg, h0, hn0, rfl, hb, h63⟩ := hc
          obtain rfl := Option.some.inj h
          obtain ⟨hzw, hzs, inf, z, h1, hz, h2, h3, hzc, hzh⟩ := zero_ok hΘ hei hg
          have hrun := run_make (P := P) M.w t e inf z hu h1 hz k1 k2 n n hn0 (Int.le_refl _) (by rw [h3]; exact hb) h63
          have hws : ∀ x ∈ List.replicate n.toNat ei.zero, x.wf ∧ x.size = ei.size := fun x hx => by obtain rfl := List.eq_of_mem_replicate hx; exact ⟨hzw, hzs⟩
          have hh := zeros_hold (M := M) (e := e) n.toNat h0 hzw hzs hzc (hzh M)
          obtain ⟨ok', fr', hm, hv⟩ := newRow_sound ok fr L (e := e) (K := n.toNat) (n := n.toNat) h0 hws (c := madeCells z.cells (n.toNat * ei.size)) (by simp [madeCells]) (by simp) (Nat.le_refl _) (by simp only [maxLen]; omega) hh
          refine ⟨_, _, ?_, rfl, ok', fr', hm, hv⟩
          rw [hrun, h2]
          rfl
        · cases h
      · cases h
    · cases h
  · cases h

/-- What a slice shows, as cells. -/
theorem elems_sound (ok : MemOK M) {sz : Nat} {y : Tr} {vy : Value} {ys : List Tr} (hy : VR M y vy) (h : aElems M.H sz y = some ys) :
    ∃ (a : Option Addr) (cap : Nat) (news : List Value), vy = .slice a ys.length cap ∧ ys.length ≤ cap ∧ (a = none → cap = 0) ∧ (∀ x ∈ ys, x.wf ∧ x.size = sz) ∧ news.length = ys.length * sz ∧
      (∀ (j : Nat) u, news[j]? = some u → ∃ ad, a = some ad ∧ M.w.cell? (ad.add j) = some u) ∧ Holds M (leavesL ys) news.toArray := by
  unfold aElems at h
  split at h
  · obtain rfl := Option.some.inj h
    obtain rfl := hy.nils_inv
    exact ⟨none, 0, [], rfl, by simp, by simp, by simp, by simp, by simp, by intro i l hi; simp [leavesL] at hi⟩
  · rename_i s xs
    split at h
    · rename_i hs
      obtain rfl := Option.some.inj h
      subst hs
      obtain ⟨a, cap, vs, rfl, hcap, hnil, hw, hI, hc, hl⟩ := hy.sl_inv
      have hlen : (leavesL xs).length = xs.length * s := by rw [leavesL_length xs ((wfL_iff _).2 fun z hz => (hw z hz).1), sum_size_const s xs (fun z hz => (hw z hz).2), Nat.mul_comm]
      refine ⟨a, cap, (List.range (xs.length * s)).map vs, rfl, hcap, hnil, hw, by simp, fun j u hj => ?_, fun j l hj => ?_⟩
      · have hjl : j < xs.length * s := by have := (List.getElem?_eq_some_iff.1 hj).1; simpa using this
        rw [List.getElem?_map, List.getElem?_range hjl] at hj
        simp only [Option.map_some, Option.some.injEq] at hj
        subst hj
        exact hc j _ (List.getElem?_eq_getElem (by omega))
      · have hjl : j < xs.length * s := by have := (List.getElem?_eq_some_iff.1 hj).1; omega
        have := hl j l hj
        simpa [Array.getD_eq_getD_getElem?, hjl] using this
    · cases h
  · rename_i d g lo len
    split at h
    · rename_i g' e s xs hd
      split at h
      · rename_i hc
        obtain ⟨rfl, rfl, hle⟩ := hc
        obtain rfl := Option.some.inj h
        have ho := hy.own_inv hd
        have hob := ok.objs d
        unfold ObjR at hob
        rw [hd] at hob
        obtain ⟨h0, hws, hob⟩ := hob
        have hll : ((xs.drop lo).take len).length = len := by simp; omega
        have hws' : ∀ x ∈ (xs.drop lo).take len, x.wf ∧ x.size = s := fun x hx => hws x (List.mem_of_mem_drop (List.mem_of_mem_take hx))
        unfold OwnV at ho
        cases hb : M.β d with
        | none =>
          rw [hb] at ho hob
          obtain ⟨rfl, rfl, rfl⟩ := ho
          simp only at hob
          subst hob
          exact ⟨none, 0, [], by simp, by simp, by simp, by simp, by simp, by simp, by intro i l hi; simp [leavesL] at hi⟩
        | some bK =>
          obtain ⟨b, K⟩ := bK
          rw [hb] at ho hob
          obtain ⟨ad, rfl, hK, had⟩ := ho
          obtain ⟨c, hcb, hcs, hxK, hKm, hl⟩ := hob
          have hlv : leavesL ((xs.drop lo).take len) = ((leavesL xs).drop (lo * s)).take (len * s) := by
            rw [leavesL_take s _ (fun x hx => hws x (List.mem_of_mem_drop hx)) _ (by simp; omega), leavesL_drop s xs hws lo (by omega)]
          have hbd : (lo + len) * s ≤ K * s := Nat.mul_le_mul_right _ hK
          rw [Nat.add_mul] at hbd
          refine ⟨some ad, K - lo, (c.toList.drop (lo * s)).take (len * s), by rw [hll], by rw [hll]; omega, by simp, hws', by rw [hll]; simp; omega, fun j u hj => ?_, fun j l hj => ?_⟩
          · have hjl : j < len * s := by have := (List.getElem?_eq_some_iff.1 hj).1; simp at this; omega
            rw [List.getElem?_take, if_pos hjl, List.getElem?_drop, Array.getElem?_toList] at hj
            have hlt : lo < K := by
              rcases Nat.lt_or_ge lo K with h' | h'
              · exact h'
              · have : len = 0 := by omega
                subst this
                simp at hjl
            refine ⟨ad, rfl, ?_⟩
            rw [had hlt, add_mk, cell_of_row M.w b _ c e (0, 0) hcb]
            exact hj
          · rw [hlv, List.getElem?_take] at hj
            split at hj
            · rename_i hjl
              rw [List.getElem?_drop] at hj
              have := hl _ _ hj
              have hbound : lo * s + j < c.size := by omega
              simp only [Array.getD_eq_getD_getElem?, List.getElem?_toArray, List.getElem?_take, if_pos hjl, List.getElem?_drop, Array.getElem?_toList] at this ⊢
              exact this
            · cases hj
      · cases h
    · cases h
  · cases h

theorem holds_append {xs ys : List Tr} {vs ws : List Value} (hx : Holds M (leavesL xs) vs.toArray) (hy : Holds M (leavesL ys) ws.toArray) (hl : (leavesL xs).length = vs.length) (hl2 : (leavesL ys).length = ws.length) (zs : List Value) :
    Holds M (leavesL (xs ++ ys)) (vs ++ ws ++ zs).toArray := by
  intro i l hi
  rw [leavesL_append] at hi
  simp only [Array.getD_eq_getD_getElem?, List.getElem?_toArray, List.append_assoc]
  by_cases h1 : i < vs.length
  · rw [List.getElem?_append_left (by omega)] at hi
    rw [List.getElem?_append_left h1]
    have := hx i l hi
    simpa [Array.getD_eq_getD_getElem?] using this
  · rw [List.getElem?_append_right (by omega)] at hi
    rw [List.getElem?_append_right (by omega)]
    have h2 := hy _ _ hi
    have h3 : i - vs.length < ws.length := by
      have := (List.getElem?_eq_some_iff.1 hi).1
      omega
    rw [List.getElem?_append_left h3]
    rw [hl] at h2
    simpa [Array.getD_eq_getD_getElem?] using h2

/-- Another block for a label, the world having drawn. -/
theorem grow_sound (ok : MemOK M) (fr : Fr Φ M) (L : Nat) {e : TypeId} {sz n K : Nat} {xs : List Tr} {c : Array Value} (h0 : 0 < sz) (hw : ∀ x ∈ xs, x.wf ∧ x.size = sz) (hc : c.size = K * sz) (hn : xs.length = n) (hle : n ≤ K) (hK : K ≤ maxLen) (hl : Holds M (leavesL xs) c) :
    ∃ M', M'.w = M.w.drew.alloc (.cells c e) ∧ M'.H = upd M.H L ((M.H L).1 + 1, .row e sz xs) ∧ MemOK M' ∧ Fr Φ M' ∧ Mono M M' ∧ VR M' (.own L ((M.H L).1 + 1) 0 n) (.slice (some ⟨M.w.heap.size, 0, none⟩) n K) := by
  obtain ⟨a, b, c', d⟩ := newRow_sound (M := M.drew) (Mem.drew_ok ok) fr.drew L (e := e) (K := K) h0 hw hc hn hle hK (hl.mono M.drew_mono)
  exact ⟨M.drew.allocAt L K (.row e sz xs) c e, rfl, rfl, a, b, M.drew_mono.trans c', d⟩

/-- A label that holds no block: an empty row. -/
theorem empty_sound (ok : MemOK M) (fr : Fr Φ M) (L : Nat) (e : TypeId) (sz : Nat) (h0 : 0 < sz) :
    ∃ M', M'.w = M.w ∧ M'.H = upd M.H L ((M.H L).1 + 1, .row e sz []) ∧ MemOK M' ∧ Fr Φ M' ∧ Mono M M' ∧ VR M' (.own L ((M.H L).1 + 1) 0 0) (.slice none 0 0) := by
  let M' : Mem := { w := M.w, Im := M.Im, β := upd M.β L none, H := upd M.H L ((M.H L).1 + 1, .row e sz []) }
  have hm : Mono M M' := ⟨fun _ h => h, fun _ _ => rfl, fun d => by
      simp only [M', upd]; split
      · rename_i h; subst h; simp
      · exact Nat.le_refl _, fun d h => by
      simp only [M', upd] at h ⊢
      by_cases hd : d = L
      · subst hd; simp at h
      · simp only [hd, if_false]; exact ⟨trivial, fun _ _ xs hx => ⟨xs, hx⟩⟩⟩
  have hlive : ∀ d b K, Live M' d → M'.β d = some (b, K) → d ≠ L ∧ Live M d ∧ M.β d = some (b, K) := by
    intro d b K h1 h2
    by_cases hd : d = L
    · subst hd; simp [M'] at h2
    · simp only [Live, M', upd, hd, if_false] at h1 h2; exact ⟨hd, h1, h2⟩
  refine ⟨M', rfl, rfl, ⟨fun d => ?_, fun d d' b K K' hne h1 h2 e1 e2 => ?_, fun d b K h1 h2 => ?_, ok.lt⟩, ⟨fr.os, fr.tape, fr.output, fr.size, fr.blk, fun d b K h1 h2 => ?_, fr.im0, fr.im1⟩, hm, ?_⟩
  · by_cases hd : d = L
    · subst hd
      unfold ObjR
      simp only [M', upd_same]
      exact ⟨h0, by simp, trivial⟩
    · exact (ok.objs d).mono hm (by simp [M', upd, hd]) (fun _ _ _ _ => rfl)
  · obtain ⟨_, a1, a2⟩ := hlive d b K h1 e1
    obtain ⟨_, b1, b2⟩ := hlive d' b K' h2 e2
    exact ok.inj d d' b K K' hne a1 b1 a2 b2
  · obtain ⟨_, a1, a2⟩ := hlive d b K h1 h2
    exact ok.sep d b K a1 a2
  · obtain ⟨_, a1, a2⟩ := hlive d b K h1 h2
    exact fr.own d b K a1 a2
  · refine .own rfl (by simp [M']) fun e2 sz2 xs2 hd2 => ?_
    simp [M', OwnV]

include hΘ in
theorem append_sound (ok : MemOK M) (fr : Fr Φ M) (L : Nat) {t u ty : TypeId} {x y : Tr} {vx vy : Value} {f : Eff} (hx : VR M x vx) (hy : VR M y vy) (h : aAppend Θ M.H L t u x y = some f) :
    ∃ v M', (Builtin.append_ #[t, u] ty #[vx, vy]).run P M.w = .ok v M'.w ∧ M'.H = f.heap M.H ∧ MemOK M' ∧ Fr Φ M' ∧ Mono M M' ∧ VR M' f.val v := by
  unfold aAppend at h
  split at h
  · rename_i htu
    subst htu
    split at h
    · rename_i ti hti
      split at h
      · rename_i e hk
        have hu := (hΘ t ti hti).und
        rw [hk] at hu
        split at h
        · rename_i ei hei
          split at h
          · rename_i ys hys
            split at h
            · rename_i hc
              obtain ⟨hg, h0⟩ := hc
              obtain ⟨hzw, hzs, inf, z, h1, hz, h2, h3, hzc, hzh⟩ := zero_ok hΘ hei hg
              obtain ⟨a, cap, news, rfl, hcap, hnil, hyw, hnl, hnews, hnh⟩ := elems_sound ok hy hys
              have hyl : (leavesL ys).length = news.length := by rw [hnl, leavesL_length ys ((wfL_iff _).2 fun z hz => (hyw z hz).1), sum_size_const ei.size ys (fun z hz => (hyw z hz).2), Nat.mul_comm]
              have hone : ∀ v ∈ news, v.oneCell' = true := by
                intro v hv
                obtain ⟨j, hj, rfl⟩ := List.mem_iff_getElem.1 hv
                have hjl : j < (leavesL ys).length := by omega
                have := hnh j _ (List.getElem?_eq_getElem hjl)
                obtain ⟨lw, ll⟩ := leavesL_wf ys ((wfL_iff _).2 fun z hz => (hyw z hz).1) _ (List.getElem_mem hjl)
                have e1 : news.toArray.getD j undef = news[j] := by simp [Array.getD_eq_getD_getElem?, hj]
                rw [e1] at this
                exact this.one lw ll
              have hempty : ys.length = 0 → news = [] := fun hz => List.eq_nil_of_length_eq_zero (by rw [hnl, hz]; simp)
              have hadd : ∀ ad, a = some ad → ∀ (j : Nat) v, news[j]? = some v → M.w.cell? (ad.add j) = some v := fun ad ha j v hj => by
                obtain ⟨ad', e1, e2⟩ := hnews j v hj
                rw [ha] at e1
                obtain rfl := Option.some.inj e1
                exact e2
              -- nothing of the row's own yet
              have fresh : ∀ (L' : Nat), ys.length * ei.bytes ≤ 140737488355328 → ys.length ≤ maxLen → ∃ v M', (Builtin.append_ #[t, t] ty #[.slice none 0 0, .slice a ys.length cap]).run P M.w = .ok v M'.w ∧
                  M'.H = upd M.H L' ((M.H L').1 + 1, .row e ei.size ys) ∧ MemOK M' ∧ Fr Φ M' ∧ Mono M M' ∧ VR M' (.own L' ((M.H L').1 + 1) 0 ys.length) v := by
                intro L' hb hmx
                by_cases hz0 : ys.length = 0
                · obtain rfl := List.eq_nil_of_length_eq_zero hz0
                  obtain ⟨M', e1, e2, e3, e4, e5, e6⟩ := empty_sound ok fr L' e ei.size h0
                  refine ⟨.slice none 0 0, M', ?_, e2, e3, e4, e5, e6⟩
                  rw [e1]
                  have hn0 := hempty rfl
                  cases a with
                  | none => simp [Builtin.append_, run_underlying hu, sizeOf, typeInfo, h1, Builtin.lenOf, Builtin.firstCells]
                  | some ad => simp [Builtin.append_, run_underlying hu, sizeOf, typeInfo, h1, Builtin.lenOf, Builtin.firstCells, loadCells, loadCellsFrom]
                · cases a with
                  | none => have := hnil rfl; omega
                  | some ad =>
                    have hmx' : ((ys.length : Nat) : Int) ≤ 9223372036854775807 := by simp only [maxLen] at hmx; omega
                    have hrun := run_append_nil (P := P) M.w t ty e inf z hu h1 hz ad ys.length cap news (by rw [hnl, h2]) (hadd ad rfl) (by omega) hmx' (by rw [h3]; omega)
                    have hcg := grownCap_ge M.w ys.length 0 e
                    have hcm := grownCap_le_maxLen M.w ys.length 0 e hmx
                    obtain ⟨M', e1, e2, e3, e4, e5, e6⟩ := grow_sound ok fr L' (e := e) (sz := ei.size) (K := grownCap M.w ys.length 0 e) (n := ys.length) (xs := ys)
                      (c := news.toArray ++ Builtin.zeroCells z.cells (grownCap M.w ys.length 0 e - ys.length)) h0 hyw
                      (by simp only [Array.size_append, List.size_toArray, size_zeroCells, hzc, hnl, ← Nat.add_mul]; congr 1; omega) rfl hcg hcm
                      (by have := holds_append (M := M) (xs := []) (vs := []) (by intro i l hi; simp [leavesL] at hi) hnh rfl hyl (Builtin.zeroCells z.cells (grownCap M.w ys.length 0 e - ys.length)).toList
                          rw [show news.toArray ++ Builtin.zeroCells z.cells (grownCap M.w ys.length 0 e - ys.length) = ([] ++ news ++ (Builtin.zeroCells z.cells (grownCap M.w ys.length 0 e - ys.length)).toList).toArray from by apply Array.ext'; simp]
                          exact this)
                    exact ⟨_, M', by rw [hrun, e1], e2, e3, e4, e5, e6⟩
              split at h
              · split at h
                · rename_i hb
                  obtain rfl := Option.some.inj h
                  obtain rfl := hx.nils_inv
                  obtain ⟨v, M', e1, e2, e3, e4, e5, e6⟩ := fresh L hb.1 hb.2
                  exact ⟨v, M', e1, e2, e3, e4, e5, e6⟩
                · cases h
              · rename_i d g n
                split at h
                · rename_i g' e' s xs hd
                  split at h
                  · rename_i hc
                    obtain ⟨rfl, rfl, rfl, rfl, hb, hmx⟩ := hc
                    obtain rfl := Option.some.inj h
                    have ho := hx.own_inv hd
                    have hob := ok.objs d
                    have hlive : Live M d := by unfold Live; rw [hd]; simp
                    unfold ObjR at hob
                    rw [hd] at hob
                    obtain ⟨_, hws, hob⟩ := hob
                    have hH : ∀ xs', upd M.H d ((M.H d).1 + 1, AObj.row e' ei.size xs') = Eff.heap ⟨.own d (g' + 1) 0 (xs.length + ys.length), some (d, g' + 1, .row e' ei.size xs')⟩ M.H := fun xs' => by simp [Eff.heap, hd]
                    unfold OwnV at ho
                    have hxl : (leavesL xs).length = xs.length * ei.size := by rw [leavesL_length xs ((wfL_iff _).2 fun z hz => (hws z hz).1), sum_size_const ei.size xs (fun z hz => (hws z hz).2), Nat.mul_comm]
                    cases hβ : M.β d with
                    | none =>
                      rw [hβ] at ho hob
                      simp only at hob
                      subst hob
                      obtain ⟨rfl, _, _⟩ := ho
                      obtain ⟨v, M', e1, e2, e3, e4, e5, e6⟩ := fresh d (by simpa using hb) (by simpa using hmx)
                      refine ⟨v, M', e1, by rw [e2, hH]; simp, e3, e4, e5, ?_⟩
                      have : (M.H d).1 = g' := by rw [hd]
                      simpa [this] using e6
                    | some bK =>
                      obtain ⟨b, K⟩ := bK
                      rw [hβ] at ho hob
                      obtain ⟨ad0, rfl, hK, had0⟩ := ho
                      obtain ⟨c, hcb, hcs, hxK, hKm, hl⟩ := hob
                      have hwz : ∀ z ∈ xs ++ ys, z.wf ∧ z.size = ei.size := fun z hz => by
                        rcases List.mem_append.1 hz with hz | hz
                        · exact hws z hz
                        · exact hyw z hz
                      have hgd : (M.H d).1 = g' := by rw [hd]
                      let olds : List Value := c.toList.take (xs.length * ei.size)
                      have hbnd : xs.length * ei.size ≤ K * ei.size := Nat.mul_le_mul_right _ hxK
                      have holds_len : olds.length = xs.length * ei.size := by simp [olds]; omega
                      have hoh : Holds M (leavesL xs) olds.toArray := by
                        intro i l hi
                        have hil : i < xs.length * ei.size := by have := (List.getElem?_eq_some_iff.1 hi).1; omega
                        have := hl i l hi
                        simp only [olds, Array.getD_eq_getD_getElem?, List.getElem?_toArray, List.getElem?_take, if_pos hil, Array.getElem?_toList] at this ⊢
                        exact this
                      by_cases hroom : xs.length + ys.length ≤ K
                      · -- in place
                        have hfit : (xs.length + ys.length) * ei.size ≤ K * ei.size := Nat.mul_le_mul_right _ hroom
                        rw [Nat.add_mul] at hfit
                        let c' : Array Value := (c.toList.take (xs.length * ei.size) ++ news ++ c.toList.drop (xs.length * ei.size + news.length)).toArray
                        have hcsz : c'.size = c.size := by simp [c']; omega
                        have hh : Holds M (leavesL (xs ++ ys)) c' := holds_append hoh hnh (by omega) hyl _
                        let M' : Mem := { w := M.w.setRow b c', Im := M.Im, β := M.β, H := upd M.H d (g' + 1, .row e' ei.size (xs ++ ys)) }
                        have hm : Mono M M' := ⟨fun _ h => h, fun b' hb' => setRow_other _ _ _ _ (fun e => ok.sep d b K hlive hβ (e ▸ hb')), fun d' => by
                            simp only [M', upd]; split
                            · rename_i h; subst h; omega
                            · exact Nat.le_refl _, fun d' h => by
                            simp only [M', upd] at h ⊢
                            by_cases hd' : d' = d
                            · subst hd'; simp [hgd] at h
                            · simp only [hd', if_false]; exact ⟨trivial, fun _ _ xs hx => ⟨xs, hx⟩⟩⟩
                        have hlive' : ∀ d', Live M' d' → Live M d' := fun d' h => by
                          by_cases hd' : d' = d
                          · subst hd'; exact hlive
                          · simpa [M', Live, upd, hd'] using h
                        have hwM : ∃ v, (Builtin.append_ #[t, t] ty #[.slice (some ad0) xs.length (K - 0), .slice a ys.length cap]).run P M.w = .ok v M'.w ∧ VR M' (.own d (g' + 1) 0 (xs.length + ys.length)) v := by
                          by_cases hz0 : ys.length = 0
                          · have hn0 := hempty hz0
                            have hy0 := List.eq_nil_of_length_eq_zero hz0
                            have hself : M.w.setRow b c' = M.w := by
                              have : c' = c := by
                                apply Array.ext'
                                simp [c', hn0]
                              rw [this]
                              exact setRow_self M.w b c e' (0, 0) hcb
                            refine ⟨.slice (some ad0) xs.length K, ?_, ?_⟩
                            · show _ = Result.ok _ (M.w.setRow b c')
                              rw [hself]
                              subst hy0
                              cases a with
                              | none => simp [Builtin.append_, run_underlying hu, sizeOf, typeInfo, h1, Builtin.lenOf, Builtin.firstCells, hxK, storeCells]
                              | some ad => simp [Builtin.append_, run_underlying hu, sizeOf, typeInfo, h1, Builtin.lenOf, Builtin.firstCells, hxK, storeCells, loadCells, loadCellsFrom]
                            · refine .own rfl (by simp [M']) fun e2 sz2 xs2 hd2 => ?_
                              simp only [M', upd_same, Prod.mk.injEq, true_and, AObj.row.injEq] at hd2
                              simp only [M', hβ, OwnV]
                              exact ⟨ad0, by simp [hz0], by omega, fun hlt => by have := had0 hlt; simpa using this⟩
                          · cases a with
                            | none => have := hnil rfl; omega
                            | some ad =>
                              have e00 := had0 (by omega)
                              simp only [Nat.zero_mul] at e00
                              subst e00
                              have hrun := run_append_room (P := P) M.w t ty e' inf hu h1 b xs.length K c hcb ad ys.length cap news (by rw [hnl, h2]) (hadd ad rfl) hone hroom (by rw [h2]; omega)
                              refine ⟨_, by rw [Nat.sub_zero, hrun, h2], ?_⟩
                              refine .own rfl (by simp [M']) fun e2 sz2 xs2 hd2 => ?_
                              simp only [M', hβ, OwnV]
                              exact ⟨_, rfl, by omega, fun _ => by simp⟩
                        obtain ⟨v, hrun, hvr⟩ := hwM
                        refine ⟨v, M', hrun, by simp [M', Eff.heap], ⟨fun d' => ?_, fun d1 d2 b' K1 K2 hne l1 l2 e1 e2 => ok.inj d1 d2 b' K1 K2 hne (hlive' _ l1) (hlive' _ l2) e1 e2, fun d' b' K' l1 e1 => ok.sep d' b' K' (hlive' _ l1) e1, fun b' hb' => by have := ok.lt b' hb'; simpa [M'] using this⟩,
                          ⟨fr.os, fr.tape, fr.output, by have := fr.size; simpa [M'] using this, fun b' hb' hL => ?_, fun d' b' K' l1 e1 => fr.own d' b' K' (hlive' _ l1) e1, fr.im0, fr.im1⟩, hm, hvr⟩
                        · by_cases hd' : d' = d
                          · subst hd'
                            unfold ObjR
                            simp only [M', upd_same, hβ]
                            exact ⟨h0, hwz, c', setRow_heap _ _ _ _ _ _ hcb, by omega, by simp; omega, hKm, hh.mono hm⟩
                          · refine (ok.objs d').mono hm (by simp [M', upd, hd']) (fun b' K' hb' hl' => setRow_other _ _ _ _ (fun e => ?_))
                            subst e
                            exact ok.inj d' d b' K' K hd' hl' hlive hb' hβ
                        · refine (setRow_other _ _ _ _ (fun e => ?_)).trans (fr.blk b' hb' hL)
                          subst e
                          rcases fr.own d b' K hlive hβ with h' | h'
                          · omega
                          · exact hL h'
                      · -- a new block
                        cases a with
                        | none => have := hnil rfl; omega
                        | some ad =>
                          have hmx' : ((xs.length + ys.length : Nat) : Int) ≤ 9223372036854775807 := by simp only [maxLen] at hmx; omega
                          have holdc : ∀ (j : Nat) v, olds[j]? = some v → M.w.cell? (ad0.add j) = some v := by
                            intro j v hj
                            have hjl : j < xs.length * ei.size := by have := (List.getElem?_eq_some_iff.1 hj).1; omega
                            have h0K : 0 < K := by
                              rcases Nat.eq_zero_or_pos K with hk0 | hk0
                              · have : xs.length = 0 := by omega
                                rw [this] at hjl; simp at hjl
                              · exact hk0
                            have e00 := had0 h0K
                            simp only [Nat.zero_mul] at e00
                            rw [e00, add_mk, Nat.zero_add, cell_of_row M.w b j c e' (0, 0) hcb]
                            simp only [olds, List.getElem?_take, if_pos hjl, Array.getElem?_toList] at hj
                            exact hj
                          have hrun := run_append_grow (P := P) M.w t ty e' inf z hu h1 hz ad0 xs.length K olds (by rw [holds_len, h2]) holdc ad ys.length cap news (by rw [hnl, h2]) (hadd ad rfl) (by omega) hmx' (growslice_fits (by omega) (by rw [h3]; exact hb))
                          have hcg := grownCap_ge M.w (xs.length + ys.length) K e'
                          have hcm := grownCap_le_maxLen M.w (xs.length + ys.length) K e' hmx
                          obtain ⟨M', e1, e2, e3, e4, e5, e6⟩ := grow_sound ok fr d (e := e') (sz := ei.size) (K := grownCap M.w (xs.length + ys.length) K e') (n := xs.length + ys.length) (xs := xs ++ ys)
                            (c := olds.toArray ++ news.toArray ++ Builtin.zeroCells z.cells (grownCap M.w (xs.length + ys.length) K e' - (xs.length + ys.length))) h0 hwz
                            (by simp only [Array.size_append, List.size_toArray, size_zeroCells, hzc, hnl, holds_len, ← Nat.add_mul]; congr 1; omega) (by simp) hcg hcm
                            (by have := holds_append (M := M) hoh hnh (by omega) hyl (Builtin.zeroCells z.cells (grownCap M.w (xs.length + ys.length) K e' - (xs.length + ys.length))).toList
                                rw [show olds.toArray ++ news.toArray ++ Builtin.zeroCells z.cells (grownCap M.w (xs.length + ys.length) K e' - (xs.length + ys.length)) = (olds ++ news ++ (Builtin.zeroCells z.cells (grownCap M.w (xs.length + ys.length) K e' - (xs.length + ys.length))).toList).toArray from by apply Array.ext'; simp]
                                exact this)
                          refine ⟨_, M', by rw [Nat.sub_zero, hrun, e1], by rw [e2, hH], e3, e4, e5, ?_⟩
                          rw [hgd] at e6
                          exact e6
                  · cases h
                · cases h
              · cases h
            · cases h
          · cases h
        · cases h
      · cases h
    · cases h
  · cases h

end
end Go.Proofs.Ytnonimnhninafaa.Ab
