/- Each operation yields what the plain functions say: new objects, stores. -/
import Derived.Test.YtnonimnhninafaaAbSound3
namespace Go.Proofs.Ytnonimnhninafaa.Ab
open Go
set_option linter.unusedVariables false
set_option linter.unusedSimpArgs false

/-- Cells hold leaves. -/
def Holds (M : Mem) (ls : List Tr) (c : Array Value) : Prop := ∀ (i : Nat) l, ls[i]? = some l → VR M l (c.getD i undef)

theorem Holds.mono {M M' : Mem} (h : Mono M M') {ls : List Tr} {c : Array Value} (hc : Holds M ls c) : Holds M' ls c := fun i l hi => (hc i l hi).mono h

/-- A stretch of cells is overwritten. -/
theorem Holds.splice {M : Mem} {ls nl : List Tr} {c c' vs : Array Value} {k : Nat} (hc : Holds M ls c) (hn : Holds M nl vs) (hk : k ≤ ls.length) (hle : k + vs.size ≤ c.size) (hs : nl.length = vs.size)
    (hg : ∀ j, c'[j]? = if k ≤ j ∧ j < k + vs.size then vs[j - k]? else c[j]?) : Holds M (ls.take k ++ (nl ++ ls.drop (k + nl.length))) c' := by
  intro i l hi
  have e1 : (ls.take k).length = k := by simp; omega
  have hgd : c'.getD i undef = if k ≤ i ∧ i < k + vs.size then vs.getD (i - k) undef else c.getD i undef := by
    simp only [Array.getD_eq_getD_getElem?, hg i]
    split <;> rfl
  rw [hgd]
  by_cases h1 : i < k
  · rw [List.getElem?_append_left (by omega), List.getElem?_take, if_pos h1] at hi
    rw [if_neg (by omega)]
    exact hc i l hi
  · rw [List.getElem?_append_right (by omega), e1] at hi
    by_cases h2 : i - k < nl.length
    · rw [List.getElem?_append_left h2] at hi
      rw [if_pos (by omega)]
      exact hn _ _ hi
    · rw [List.getElem?_append_right (by omega), List.getElem?_drop] at hi
      rw [if_neg (by omega)]
      have := hc _ _ hi
      rwa [show k + nl.length + (i - k - nl.length) = i by omega] at this

theorem splice_get (c : Array Value) (vs : List Value) (k : Nat) (hle : k + vs.length ≤ c.size) (j : Nat) :
    ((c.toList.take k ++ vs ++ c.toList.drop (k + vs.length)).toArray)[j]? = if k ≤ j ∧ j < k + vs.length then vs.toArray[j - k]? else c[j]? := by
  have e1 : (c.toList.take k).length = k := by simp; omega
  simp only [List.getElem?_toArray, List.append_assoc]
  by_cases h1 : j < k
  · rw [List.getElem?_append_left (by omega), List.getElem?_take, if_pos h1, if_neg (by omega), Array.getElem?_toList]
  · rw [List.getElem?_append_right (by omega), e1]
    by_cases h2 : j - k < vs.length
    · rw [List.getElem?_append_left h2, if_pos (by omega)]
    · rw [List.getElem?_append_right (by omega), List.getElem?_drop, if_neg (by omega), Array.getElem?_toList]
      congr 1
      omega

theorem foldl_set (off : Nat) : ∀ (l : List Value) (k : Nat) (cs : Array Value), off + k + l.length ≤ cs.size →
    ((l.zipIdx k).foldl (fun cs (x : Value × Nat) => cs.setIfInBounds (off + x.2) x.1) cs).size = cs.size ∧
    ∀ j, ((l.zipIdx k).foldl (fun cs (x : Value × Nat) => cs.setIfInBounds (off + x.2) x.1) cs)[j]? = if off + k ≤ j ∧ j < off + k + l.length then l[j - (off + k)]? else cs[j]?
  | [], k, cs, _ => ⟨rfl, fun j => by simp only [List.zipIdx_nil, List.foldl_nil, List.length_nil]; rw [if_neg (by omega)]⟩
  | v :: l, k, cs, h => by
    simp only [List.length_cons] at h
    obtain ⟨h1, h2⟩ := foldl_set off l (k + 1) (cs.setIfInBounds (off + k) v) (by simp; omega)
    simp only [List.zipIdx_cons, List.foldl_cons]
    refine ⟨by rw [h1]; simp, fun j => ?_⟩
    rw [h2 j]
    simp only [List.length_cons]
    by_cases hj : j = off + k
    · subst hj
      rw [if_neg (by omega), if_pos (by omega)]
      simp only [Nat.sub_self, List.getElem?_cons_zero]
      rw [Array.getElem?_setIfInBounds, if_pos rfl, if_pos (by omega)]
    · by_cases h3 : off + k ≤ j ∧ j < off + k + (l.length + 1)
      · rw [if_pos (show off + (k + 1) ≤ j ∧ j < off + (k + 1) + l.length by omega), if_pos h3, show j - (off + k) = (j - (off + (k + 1))) + 1 by omega, List.getElem?_cons_succ]
      · rw [if_neg (show ¬ (off + (k + 1) ≤ j ∧ j < off + (k + 1) + l.length) by omega), if_neg h3, Array.getElem?_setIfInBounds, if_neg (by omega)]

/-- One step of the model's 'fill'. -/
theorem fill_step {place : Nat → Option (Nat × Nat)} {cells : Array Value} {i off size : Nat} {v : Value} {rest : List (Nat × Value)} (hp : place i = some (off, size)) (hs : v.cells.size = size) (hle : off + size ≤ cells.size) :
    ∃ cells', Instr.fill place cells ((i, v) :: rest) = Instr.fill place cells' rest ∧ cells'.size = cells.size ∧
      ∀ j, cells'[j]? = if off ≤ j ∧ j < off + size then v.cells[j - off]? else cells[j]? := by
  have hcond : (decide (v.cells.size ≠ size) || decide (off + v.cells.size > cells.size)) = false := by simp; omega
  refine ⟨v.cells.zipIdx.foldl (fun cs (x : Value × Nat) => cs.setIfInBounds (off + x.2) x.1) cells, ?_, ?_, ?_⟩
  · simp only [Instr.fill, hp, hcond, Bool.false_eq_true, if_false]
  · rw [← Array.foldl_toList, Array.toList_zipIdx]
    exact (foldl_set off v.cells.toList 0 cells (by simp; omega)).1
  · intro j
    rw [← Array.foldl_toList, Array.toList_zipIdx, (foldl_set off v.cells.toList 0 cells (by simp; omega)).2 j]
    simp only [Nat.add_zero, Array.length_toList, hs, Array.getElem?_toList]

inductive PartsR (M : Mem) : List (Nat × Tr) → List (Nat × Value) → Prop
  | nil : PartsR M [] []
  | cons {p : Nat × Tr} {q : Nat × Value} {ps : List (Nat × Tr)} {qs : List (Nat × Value)} (h1 : p.1 = q.1 ∧ VR M p.2 q.2) (h2 : PartsR M ps qs) : PartsR M (p :: ps) (q :: qs)

theorem fill_parts {M : Mem} (place : Nat → Option (Nat × Nat)) : ∀ (ps : List (Nat × Tr)) (qs : List (Nat × Value)) (t t' : Tr) (c : Array Value), PartsR M ps qs → setParts place ps t = some t' → t.wf → t.good = true → c.size = t.size → Holds M t.leaves c →
    ∃ c', Instr.fill place c qs = some c' ∧ t'.wf ∧ t'.good = true ∧ t'.isAgg = t.isAgg ∧ t'.size = t.size ∧ c'.size = t'.size ∧ Holds M t'.leaves c'
  | [], _, t, t', c, hp, h, hw, hg, hs, hh => by
    cases hp
    obtain rfl := Option.some.inj h
    exact ⟨c, rfl, hw, hg, rfl, rfl, hs, hh⟩
  | (i, x) :: ps, _, t, t', c, hp, h, hw, hg, hs, hh => by
    cases hp with
    | cons h1 h2 =>
    rename_i q qs
    obtain ⟨i', v⟩ := q
    obtain ⟨hi, hv⟩ := h1
    simp only at hi hv
    subst hi
    simp only [setParts] at h
    split at h
    · rename_i off size o u hpl hat
      split at h
      · rename_i hc
        obtain ⟨hxs, hus, ho, hxg⟩ := hc
        split at h
        · rename_i t1 hset
          obtain ⟨hvs, hvl⟩ := hv.cells hxg
          have hxw := good_wf hv hxg
          obtain ⟨t1', k, hset', hw1, hs1, hok, hle, hlv⟩ := set_leaves [i] t 0 o u x hw hat hxw (hxs.trans hus.symm)
          rw [hset] at hset'
          obtain rfl := Option.some.inj hset'
          have hk : k = off := by omega
          subst hk
          have hlen := leaves_length t hw
          have hxl := leaves_length x hxw
          obtain ⟨c1, hf1, hc1s, hc1⟩ := fill_step (rest := qs) hpl (hvs.trans hxs) (by omega : k + size ≤ c.size)
          have hh1 : Holds M t1.leaves c1 := by
            rw [hlv, show u.size = x.leaves.length by omega]
            refine Holds.splice (vs := v.cells) hh hvl (by omega) (by omega) (by omega) ?_
            intro j
            rw [hc1 j]
            simp only [hvs, hxs]
          have hg1 : t1.good = true := by
            cases t <;> simp [Tr.atF] at hat <;> (simp only [Tr.setF] at hset; split at hset <;> simp at hset <;> (subst hset; rfl))
          have ha1 : t1.isAgg = t.isAgg := by
            cases t <;> simp [Tr.atF] at hat <;> (simp only [Tr.setF] at hset; split at hset <;> simp at hset <;> (subst hset; rfl))
          obtain ⟨c', hf', r1, r2, r3, r4, r5, r6⟩ := fill_parts place ps qs t1 t' c1 h2 h hw1 hg1 (by omega) hh1
          exact ⟨c', hf1.trans hf', r1, r2, r3.trans ha1, r4.trans hs1, r5, r6⟩
        · cases h
      · cases h
    · cases h

theorem fill_elems {M : Mem} (sz : Nat) : ∀ (ps : List (Nat × Tr)) (qs : List (Nat × Value)) (xs xs' : List Tr) (c : Array Value), PartsR M ps qs → setElems sz ps xs = some xs' → (∀ x ∈ xs, x.wf ∧ x.size = sz) → c.size = xs.length * sz → Holds M (leavesL xs) c →
    ∃ c', Instr.fill (fun i => some (i * sz, sz)) c qs = some c' ∧ (∀ x ∈ xs', x.wf ∧ x.size = sz) ∧ xs'.length = xs.length ∧ c'.size = xs'.length * sz ∧ Holds M (leavesL xs') c'
  | [], _, xs, xs', c, hp, h, hw, hs, hh => by
    cases hp
    obtain rfl := Option.some.inj h
    exact ⟨c, rfl, hw, rfl, hs, hh⟩
  | (i, x) :: ps, _, xs, xs', c, hp, h, hw, hs, hh => by
    cases hp with
    | cons h1 h2 =>
    rename_i q qs
    obtain ⟨i', v⟩ := q
    obtain ⟨hi, hv⟩ := h1
    simp only at hi hv
    subst hi
    simp only [setElems] at h
    split at h
    · rename_i hc
      obtain ⟨hilt, hxs, hxg⟩ := hc
      obtain ⟨hvs, hvl⟩ := hv.cells hxg
      have hxw := good_wf hv hxg
      have hxl := leaves_length x hxw
      have hbd : (i + 1) * sz ≤ xs.length * sz := Nat.mul_le_mul_right _ (by omega)
      rw [Nat.add_mul, Nat.one_mul] at hbd
      obtain ⟨c1, hf1, hc1s, hc1⟩ := fill_step (place := fun i => some (i * sz, sz)) (cells := c) (rest := qs) (i := i) rfl (hvs.trans hxs) (by omega)
      have hget : xs[i]? = some xs[i] := List.getElem?_eq_getElem hilt
      have hpre := leavesL_pre sz xs hw i (by omega)
      have hh1 : Holds M (leavesL (xs.set i x)) c1 := by
        have e : leavesL (xs.set i x) = (leavesL xs).take (i * sz) ++ (x.leaves ++ (leavesL xs).drop (i * sz + x.leaves.length)) := by
          rw [leavesL_set xs i _ x hget, leavesL_take sz xs hw i (by omega), leavesL_drop sz xs hw (i + 1) (by omega), Nat.add_mul, Nat.one_mul, hxl, hxs]
        rw [e]
        refine Holds.splice (vs := v.cells) hh hvl ?_ (by omega) (by omega) ?_
        · rw [leavesL_length xs ((wfL_iff _).2 fun z hz => (hw z hz).1), sum_size_const sz xs (fun z hz => (hw z hz).2), Nat.mul_comm sz]; omega
        · intro j
          rw [hc1 j]
          simp only [hvs, hxs]
      have hw1 : ∀ z ∈ xs.set i x, z.wf ∧ z.size = sz := fun z hz => by
        rcases List.mem_or_eq_of_mem_set hz with hz' | rfl
        · exact hw z hz'
        · exact ⟨hxw, hxs⟩
      obtain ⟨c', hf', r1, r2, r3, r4⟩ := fill_elems sz ps qs (xs.set i x) xs' c1 h2 h hw1 (by simp; omega) hh1
      exact ⟨c', hf1.trans hf', r1, by simpa using r2, r3, r4⟩
    · cases h

theorem leavesL_replicate (n sz : Nat) (z : Tr) (hw : z.wf) (hs : z.size = sz) (h0 : 0 < sz) (j : Nat) (l : Tr) (h : (leavesL (List.replicate n z))[j]? = some l) : z.leaves[j % sz]? = some l ∧ j < n * sz := by
  have hws : ∀ x ∈ List.replicate n z, x.wf ∧ x.size = sz := fun x hx => by obtain rfl := List.eq_of_mem_replicate hx; exact ⟨hw, hs⟩
  have hlen : (leavesL (List.replicate n z)).length = n * sz := by
    rw [leavesL_length _ ((wfL_iff _).2 fun x hx => (hws x hx).1), sum_size_const sz _ (fun x hx => (hws x hx).2)]
    simp [Nat.mul_comm]
  have hj : j < n * sz := by rw [← hlen]; exact (List.getElem?_eq_some_iff.1 h).1
  have hd : j / sz < n := (Nat.div_lt_iff_lt_mul h0).2 hj
  have hm : j % sz < sz := Nat.mod_lt _ h0
  have hzl := leaves_length z hw
  have hmz : j % sz < z.leaves.length := by omega
  have h1 := leavesL_elem sz (List.replicate n z) hws (j / sz) z (by simp [hd]) (j % sz) _ (List.getElem?_eq_getElem hmz)
  rw [show j / sz * sz + j % sz = j from by rw [Nat.mul_comm]; exact Nat.div_add_mod j sz] at h1
  rw [h] at h1
  exact ⟨by rw [List.getElem?_eq_getElem hmz, Option.some.inj h1], hj⟩

theorem const_vr {M : Mem} {l : Tr} (h : l.isConst = true) : VR M l l.constVal := by
  cases l <;> simp [Tr.isConst] at h <;> constructor

theorem const_one {l : Tr} (h : l.isConst = true) : l.constVal.oneCell' = true := by
  cases l <;> simp [Tr.isConst] at h <;> rfl

section
variable {P : Program} {Θ : Tab} (hΘ : TabOK P Θ) {Φ : Base} {M : Mem}

include hΘ in
theorem zero_ok {t : TypeId} {i : TyI} (ht : Θ t = some i) (hg : i.zero.good = true) : i.zero.wf ∧ i.zero.size = i.size ∧ ∃ inf z, P.info? t = some inf ∧ inf.zero = some z ∧ inf.size = i.size ∧ inf.bytes = i.bytes ∧ z.cells.size = i.size ∧ ∀ M, Holds M i.zero.leaves z.cells := by
  obtain ⟨inf, h1, h2, h3, h4⟩ := (hΘ t i ht).info
  obtain ⟨hw, hs, _, hc, z, hz, hzc⟩ := h4 hg
  have hl := leaves_length _ hw
  refine ⟨hw, hs, inf, z, h1, hz, h2, h3, ?_, fun M j l hj => ?_⟩
  · rw [← Array.length_toList, hzc]; simp; omega
  · have : z.cells.toList[j]? = some l.constVal := by rw [hzc, List.getElem?_map, hj]; rfl
    rw [Array.getElem?_toList] at this
    rw [Array.getD_eq_getD_getElem?, this]
    exact const_vr (hc l (List.mem_of_getElem? hj))

/-- A new variable. -/
theorem newVar_sound (ok : MemOK M) (fr : Fr Φ M) (L : Nat) {t : TypeId} {x : Tr} {v : Value} (hw : x.wf) (hs : v.cells.size = x.size) (hl : Holds M x.leaves v.cells) :
    ∃ M', (newVar t v).run P M.w = .ok ⟨M.w.heap.size, 0, none⟩ M'.w ∧ M'.H = upd M.H L ((M.H L).1 + 1, .cells x) ∧ MemOK M' ∧ Fr Φ M' ∧ Mono M M' ∧ VR M' (.ptr L ((M.H L).1 + 1) [] 0) (.pointer (some ⟨M.w.heap.size, 0, none⟩)) := by
  have hm := Mem.allocAt_mono ok L 0 (.cells x) v.cells t
  refine ⟨M.allocAt L 0 (.cells x) v.cells t, ?_, rfl, Mem.allocAt_ok ok _ _ _ _ _ ?_, fr.allocAt _ _ _ _ _, hm, ?_⟩
  · simp [newVar, newRow, Mem.allocAt]
  · unfold ObjR
    simp only [Mem.allocAt, upd_same]
    exact ⟨hw, M.w.heap.size, 0, v.cells, t, rfl, heap_alloc_new _ _, hs, fun i l hi => (hl i l hi).mono hm⟩
  · refine .ptr rfl (by simp [Mem.allocAt]) fun _ => ⟨M.w.heap.size, 0, by simp [Mem.allocAt], rfl⟩

/-- A new row. -/
theorem newRow_sound (ok : MemOK M) (fr : Fr Φ M) (L : Nat) {e : TypeId} {sz n K : Nat} {xs : List Tr} {c : Array Value} (h0 : 0 < sz) (hw : ∀ x ∈ xs, x.wf ∧ x.size = sz) (hc : c.size = K * sz) (hn : xs.length = n) (hle : n ≤ K) (hK : K ≤ maxLen) (hl : Holds M (leavesL xs) c) :
    MemOK (M.allocAt L K (.row e sz xs) c e) ∧ Fr Φ (M.allocAt L K (.row e sz xs) c e) ∧ Mono M (M.allocAt L K (.row e sz xs) c e) ∧
      VR (M.allocAt L K (.row e sz xs) c e) (.own L ((M.H L).1 + 1) 0 n) (.slice (some ⟨M.w.heap.size, 0, none⟩) n K) := by
  have hm := Mem.allocAt_mono ok L K (.row e sz xs) c e
  refine ⟨Mem.allocAt_ok ok _ _ _ _ _ ?_, fr.allocAt _ _ _ _ _, hm, ?_⟩
  · unfold ObjR
    simp only [Mem.allocAt, upd_same]
    exact ⟨h0, hw, c, heap_alloc_new _ _, hc, by omega, hK, fun i l hi => (hl i l hi).mono hm⟩
  · refine .own rfl (by simp [Mem.allocAt]) fun e2 sz2 xs2 hd2 => ?_
    simp only [Mem.allocAt, upd_same, OwnV]
    simp only [Mem.allocAt, upd_same, Prod.mk.injEq, true_and, AObj.row.injEq] at hd2
    exact ⟨_, rfl, by omega, fun _ => by simp⟩

theorem setF_good {p : List Nat} {t new t' : Tr} (h : Tr.setF p new t = some t') (hn : new.good = true) : t'.good = true := by
  cases p with
  | nil => simp only [Tr.setF, Option.some.injEq] at h; subst h; exact hn
  | cons i p =>
    cases t <;> simp only [Tr.setF] at h <;> first | (cases h; done) | (split at h <;> first | (cases h; done) | (obtain ⟨y, _, rfl⟩ := Option.map_eq_some_iff.1 h; rfl))

include hΘ in
theorem store_sound (ok : MemOK M) (fr : Fr Φ M) {t : TypeId} {x new : Tr} {vx vn : Value} {f : Eff} (hx : VR M x vx) (hn : VR M new vn) (h : aStore Θ M.H t x new = some f) :
    ∃ M', (Instr.storeAt t vx vn).run P M.w = .ok () M'.w ∧ M'.H = f.heap M.H ∧ MemOK M' ∧ Fr Φ M' ∧ Mono M M' ∧ f.val = .any := by
  unfold aStore at h
  split at h
  · rename_i i u hi hat
    split at h
    · rename_i hc
      obtain ⟨hus, hns, hng⟩ := hc
      split at h
      · rename_i hput hp
        obtain rfl := Option.some.inj h
        obtain ⟨hcs, hcl⟩ := hn.cells hng
        have hone := hn.cells_one hng
        have hnw := good_wf hn hng
        have hnl := leaves_length new hnw
        unfold aPut at hp
        split at hp
        · rename_i d g p off
          unfold aAt at hat
          simp only at hat
          split at hat
          · rename_i hg
            obtain ⟨b, K, hb, rfl⟩ := hx.ptr_inv hg
            have ho := ok.objs d
            unfold ObjR at ho
            split at hp
            · rename_i p t0 hd
              rw [hd] at ho
              simp only [hd] at hat
              obtain ⟨hw, b', K', c, e, hb', hcb, hs, hl⟩ := ho
              rw [hb] at hb'
              simp only [Option.some.injEq, Prod.mk.injEq] at hb'
              obtain ⟨rfl, rfl⟩ := hb'
              split at hat
              · rename_i o u' hat'
                split at hat
                · rename_i hoff
                  obtain rfl := Option.some.inj hat
                  subst hoff
                  obtain ⟨t', hset, rfl⟩ := Option.map_eq_some_iff.1 hp
                  obtain ⟨t1, k, hset', hw1, hs1, hok, hle, hlv⟩ := set_leaves _ t0 0 o u' new hw hat' hnw (hns.trans hus.symm)
                  rw [hset] at hset'
                  obtain rfl := Option.some.inj hset'
                  have hk : o = k := by omega
                  subst hk
                  have hlive : Live M d := by unfold Live; rw [hd]; simp
                  have hst := run_storeCells_at P b o e vn.cells.toList 0 c M.w hcb (by simp; omega) (fun v hv => hone v (by simpa using hv))
                  simp only [Nat.add_zero] at hst
                  let c' : Array Value := (c.toList.take o ++ vn.cells.toList ++ c.toList.drop (o + vn.cells.toList.length)).toArray
                  have hcg := splice_get c vn.cells.toList o (by simp; omega)
                  have hcsz : c'.size = c.size := by simp [c']; omega
                  have hos : ObjSame (M.H d).2 (.cells t') := fun _ _ _ h => by cases h
                  have hm := Mem.writeAt_mono ok d b K (.cells t') c' hlive hb hos
                  refine ⟨M.writeAt d b (.cells t') c', ?_, ?_, Mem.writeAt_ok ok d b K _ _ hlive hb hos ?_, fr.writeAt d b K _ _ hlive hb, hm, rfl⟩
                  · simp only [Instr.storeAt, Instr.sureAddr, Sem.run_bind, Sem.run_pure, Result.andThen_ok, storeVar, run_sizeOf hΘ hi, hcs, hns, ne_eq, not_true_eq_false, if_false, hst]
                    rfl
                  · simp [Mem.writeAt, Eff.heap, hg]
                  · unfold ObjR
                    simp only [Mem.writeAt, upd_same]
                    refine ⟨hw1, b, K, c', e, hb, setRow_heap _ _ _ _ _ _ hcb, by omega, ?_⟩
                    have hh : Holds M t'.leaves c' := by
                      rw [hlv, show u'.size = new.leaves.length by omega]
                      have h0l := leaves_length t0 hw
                      refine Holds.splice (vs := vn.cells) hl hcl (by omega) (by omega) (by omega) ?_
                      intro j
                      have := hcg j
                      simpa [c'] using this
                    exact hh.mono hm
                · cases hat
              · cases hat
            · rename_i e sz xs i0 p hd
              rw [hd] at ho
              simp only [hd] at hat
              obtain ⟨h0, hws, ho⟩ := ho
              rw [hb] at ho
              obtain ⟨c, hcb, hs, hxK, hK, hl⟩ := ho
              split at hp
              · rename_i y hy
                simp only [hy] at hat
                split at hat
                · rename_i o u' hat'
                  split at hat
                  · rename_i hoff
                    obtain rfl := Option.some.inj hat
                    subst hoff
                    obtain ⟨y', hset, rfl⟩ := Option.map_eq_some_iff.1 hp
                    have hyw := hws y (List.mem_of_getElem? hy)
                    obtain ⟨y1, k, hset', hw1, hs1, hok, hle, hlv⟩ := set_leaves _ y (i0 * sz) o u' new hyw.1 hat' hnw (hns.trans hus.symm)
                    rw [hset] at hset'
                    obtain rfl := Option.some.inj hset'
                    have hilt : i0 < xs.length := (List.getElem?_eq_some_iff.1 hy).1
                    have hlive : Live M d := by unfold Live; rw [hd]; simp
                    have hbd : (i0 + 1) * sz ≤ K * sz := Nat.mul_le_mul_right _ (by omega)
                    rw [Nat.add_mul, Nat.one_mul] at hbd
                    have hst := run_storeCells_at P b o e vn.cells.toList 0 c M.w hcb (by simp; omega) (fun v hv => hone v (by simpa using hv))
                    simp only [Nat.add_zero] at hst
                    let c' : Array Value := (c.toList.take o ++ vn.cells.toList ++ c.toList.drop (o + vn.cells.toList.length)).toArray
                    have hcg := splice_get c vn.cells.toList o (by simp; omega)
                    have hcsz : c'.size = c.size := by simp [c']; omega
                    have hos : ObjSame (M.H d).2 (.row e sz (xs.set i0 y')) := fun e1 s1 x1 h => by rw [hd]; cases h; exact ⟨xs, rfl⟩
                    have hm := Mem.writeAt_mono ok d b K (.row e sz (xs.set i0 y')) c' hlive hb hos
                    refine ⟨M.writeAt d b (.row e sz (xs.set i0 y')) c', ?_, ?_, Mem.writeAt_ok ok d b K _ _ hlive hb hos ?_, fr.writeAt d b K _ _ hlive hb, hm, rfl⟩
                    · simp only [Instr.storeAt, Instr.sureAddr, Sem.run_bind, Sem.run_pure, Result.andThen_ok, storeVar, run_sizeOf hΘ hi, hcs, hns, ne_eq, not_true_eq_false, if_false, hst]
                      rfl
                    · simp [Mem.writeAt, Eff.heap, hg]
                    · unfold ObjR
                      simp only [Mem.writeAt, upd_same]
                      refine ⟨h0, fun z hz => ?_, ?_⟩
                      · rcases List.mem_or_eq_of_mem_set hz with hz' | rfl
                        · exact hws z hz'
                        · exact ⟨hw1, hs1.trans hyw.2⟩
                      · rw [hb]
                        refine ⟨c', setRow_heap _ _ _ _ _ _ hcb, by omega, by simpa using hxK, hK, ?_⟩
                        have hyl := leaves_length y hyw.1
                        have hpre := leavesL_pre sz xs hws i0 (by omega)
                        have hh : Holds M (leavesL (xs.set i0 y')) c' := by
                          have e0 : leavesL (xs.set i0 y') = (leavesL xs).take o ++ (new.leaves ++ (leavesL xs).drop (o + new.leaves.length)) := by
                            rw [leavesL_set xs i0 y y' hy, hlv, leavesL_split xs i0 y hy]
                            have e1 : (leavesL (xs.take i0) ++ (y.leaves ++ leavesL (xs.drop (i0 + 1)))).take o = leavesL (xs.take i0) ++ y.leaves.take k := by
                              rw [List.take_append, hpre, List.take_of_length_le (by omega), show o - i0 * sz = k by omega, List.take_append_of_le_length (by omega)]
                            have e2 : (leavesL (xs.take i0) ++ (y.leaves ++ leavesL (xs.drop (i0 + 1)))).drop (o + new.leaves.length) = y.leaves.drop (k + u'.size) ++ leavesL (xs.drop (i0 + 1)) := by
                              rw [List.drop_append, hpre, List.drop_of_length_le (by omega), show o + new.leaves.length - i0 * sz = k + u'.size by omega, List.nil_append, List.drop_append_of_le_length (by omega)]
                            rw [e1, e2]
                            simp [List.append_assoc]
                          rw [e0]
                          refine Holds.splice (vs := vn.cells) hl hcl ?_ (by omega) (by omega) ?_
                          · rw [leavesL_length xs ((wfL_iff _).2 fun z hz => (hws z hz).1), sum_size_const sz xs (fun z hz => (hws z hz).2), Nat.mul_comm sz]
                            have : (i0 + 1) * sz ≤ xs.length * sz := Nat.mul_le_mul_right _ (by omega)
                            rw [Nat.add_mul, Nat.one_mul] at this
                            omega
                          · intro j
                            have := hcg j
                            simpa [c'] using this
                        exact hh.mono hm
                  · cases hat
                · cases hat
              · cases hp
            · cases hp
          · cases hat
        · cases hp
      · cases h
    · cases h
  · cases h

end
end Go.Proofs.Ytnonimnhninafaa.Ab
