/- Operations on typed values: what is built, numbers, comparisons. -/
import Derived.Test.YtnonimnhninafaaAbV5
namespace Go.Proofs.Ytnonimnhninafaa.Ab
open Go
set_option linter.unusedVariables false
set_option linter.unusedSimpArgs false

def zOf (tyOf : TypeId → Option Ty) (e : TypeId) (ei : TyI) : V :=
  match tyOf e with
  | some c => zF 9 c
  | none => match ei.zero with
    | .nilp => .nilp
    | .nilf => .nilf
    | .nils => .nils
    | _ => .any

def setElemsV (cur : Nat → Nat) (sz : Nat) : List (Nat × V) → List V → Option (List V)
  | [], vs => some vs
  | (i, x) :: ps, vs => bif Nat.blt i vs.length && (Nat.beq (vsz x) sz && vOk cur x) then setElemsV cur sz ps (vs.set i x) else none

def vBuildSlice (Θ : Tab) (tyOf : TypeId → Option Ty) (s : VSt) (L : Nat) (t : TypeId) (len : Nat) (ps : List (Nat × V)) : VRes :=
  match Θ t with
  | some ti => match ti.kind with
    | .slice e => match Θ e with
      | some ei => bif vOk s.cur (zOf tyOf e ei) && (Nat.blt 0 ei.size && Nat.ble (len * ei.size) 16777216) then
          match setElemsV s.cur ei.size ps (List.replicate len (zOf tyOf e ei)) with
          | some vs => some (true, ⟨.ownA L (s.cur L + 1) len, some (L, s.cur L + 1, .rowV e ei.size vs)⟩)
          | none => none
        else none
      | none => none
    | _ => none
  | none => none

def vAlloc (Θ : Tab) (tyOf : TypeId → Option Ty) (s : VSt) (L : Nat) (t : TypeId) : VRes :=
  match Θ t with
  | some ti => bif vOk s.cur (zOf tyOf t ti) then some (true, ⟨.vptr L (s.cur L + 1) [] 0, some (L, s.cur L + 1, .cells (zOf tyOf t ti))⟩) else none
  | none => none

def vBox (s : VSt) (L : Nat) (x : V) : VRes :=
  bif vOk s.cur x then some (true, ⟨.vptr L (s.cur L + 1) [] 0, some (L, s.cur L + 1, .cells x)⟩) else none

def setPartsV (cur : Nat → Nat) (cs : List Ty) : List (Nat × V) → List V → Option (List V)
  | [], vs => some vs
  | (i, x) :: ps, vs => match cs[i]? with
    | some c => bif Nat.beq (vsz x) (tsz c) && vOk cur x then setPartsV cur cs ps (vs.set i x) else none
    | none => none

def setPartsA (n : Nat) (c : Ty) : List (Nat × V) → Vector (den c) n → Option (Vector (den c) n)
  | [], xs => some xs
  | (i, x) :: ps, xs => match castV c x with
    | some y => bif Nat.blt i n then setPartsA n c ps (xs.setIfInBounds i y) else none
    | none => none

def vBuild (Θ : Tab) (tyOf : TypeId → Option Ty) (s : VSt) (t : TypeId) (ps : List (Nat × V)) : VRes :=
  match tyOf t with
  | some (.st si) => match setPartsV s.cur (tys si) ps ((tys si).map (zF 8)) with
    | some vs => some (true, ⟨tight si vs, none⟩)
    | none => none
  | some (.arr n c) => match setPartsA n c ps (dflt (.arr n c)) with
    | some xs => some (true, ⟨.tv (.arr n c) xs, none⟩)
    | none => none
  | _ => none

section
variable {s : VSt} {s' : St} {Θ : Tab} {tyOf : TypeId → Option Ty}

theorem zOf_sound (hty : TypOK Θ tyOf) {cur : Nat → Nat} {H : Heap} {e : TypeId} {ei : TyI} (h : Θ e = some ei) : FlatR cur H (zOf tyOf e ei) ei.zero := by
  unfold zOf
  split
  · rename_i c hc
    obtain ⟨i2, tc⟩ := hty e c hc
    have hi2 : i2 = ei := by have := tc.get; rw [h] at this; exact (Option.some.inj this).symm
    subst hi2
    rw [tc.zero]
    exact zF_sound 9 c tc.zok
  · split
    · rename_i hz; rw [hz]; exact .nilp
    · rename_i hz; rw [hz]; exact .nilf
    · rename_i hz; rw [hz]; exact .nils
    · exact .any _

def PartsF (cur : Nat → Nat) (H : Heap) (ps : List (Nat × V)) (qs : List (Nat × Tr)) : Prop := qs.length = ps.length ∧ ∀ (k : Nat) p q, ps[k]? = some p → qs[k]? = some q → q.1 = p.1 ∧ FlatR cur H p.2 q.2
theorem PartsF.tail {cur : Nat → Nat} {H : Heap} {p : Nat × V} {q : Nat × Tr} {ps : List (Nat × V)} {qs : List (Nat × Tr)} (h : PartsF cur H (p :: ps) (q :: qs)) : (q.1 = p.1 ∧ FlatR cur H p.2 q.2) ∧ PartsF cur H ps qs :=
  ⟨h.2 0 p q rfl rfl, by simpa using h.1, fun k p q hp hq => h.2 (k + 1) p q (by simpa using hp) (by simpa using hq)⟩

theorem setElemsV_sound {cur : Nat → Nat} {H : Heap} {sz : Nat} : ∀ {ps : List (Nat × V)} {qs : List (Nat × Tr)} {vs vs' : List V} {ts : List Tr}, PartsF cur H ps qs → setElemsV cur sz ps vs = some vs' → FlatL cur H vs ts →
    ∃ ts', setElems sz qs ts = some ts' ∧ FlatL cur H vs' ts'
  | [], qs, vs, vs', ts, hp, h, hf => by
    have : qs = [] := by have := hp.1; simpa using this
    subst this
    simp only [setElemsV, Option.some.injEq] at h
    subst h
    exact ⟨ts, rfl, hf⟩
  | (i, x) :: ps, [], vs, vs', ts, hp, h, hf => by have := hp.1; simp at this
  | (i, x) :: ps, (j, y) :: qs, vs, vs', ts, hp, h, hf => by
    obtain ⟨⟨h1, h2⟩, h3⟩ := hp.tail
    simp only at h1 h2
    subst h1
    simp only [setElemsV] at h
    have hq := bif_some h
    simp only [Bool.and_eq_true, Nat.blt_eq] at hq
    obtain ⟨⟨q1, q2, q3⟩, q4⟩ := hq
    obtain ⟨k1, k2, k3⟩ := h2.shape q3
    obtain ⟨ts', e1, e2⟩ := setElemsV_sound h3 q4 (hf.set j h2)
    refine ⟨ts', ?_, e2⟩
    simp only [setElems]
    rw [if_pos ⟨by rw [hf.1]; exact q1, by rw [k1]; exact Nat.eq_of_beq_eq_true q2, k3⟩]
    exact e1

theorem setElemsV_length {cur : Nat → Nat} {sz : Nat} : ∀ {ps : List (Nat × V)} {vs vs' : List V}, setElemsV cur sz ps vs = some vs' → vs'.length = vs.length
  | [], vs, vs', h => by simp only [setElemsV, Option.some.injEq] at h; subst h; rfl
  | (i, x) :: ps, vs, vs', h => by
    simp only [setElemsV] at h
    have := setElemsV_length (bif_some h).2
    simpa using this

theorem vBuildSlice_sound (hty : TypOK Θ tyOf) {L : Nat} {t : TypeId} {len : Nat} {ps : List (Nat × V)} {qs : List (Nat × Tr)} (hp : PartsF s.cur s'.H ps qs) {e : VEff} (h : vBuildSlice Θ tyOf s L t len ps = some (true, e)) :
    ∃ ti el ei xs, Θ t = some ti ∧ ti.kind = .slice el ∧ Θ el = some ei ∧ (ei.zero.good = true ∧ 0 < ei.size ∧ len * ei.size ≤ 2 ^ 24) ∧ setElems ei.size qs (List.replicate len ei.zero) = some xs ∧
      EffF s.cur s'.H e ⟨.own L ((s'.H L).1 + 1) 0 len, some (L, (s'.H L).1 + 1, .row el ei.size xs)⟩ := by
  unfold vBuildSlice at h
  split at h
  · rename_i ti hti
    split at h
    · rename_i el hk
      split at h
      · rename_i ei hei
        have hq := bif_some h
        obtain ⟨hc, h⟩ := hq
        simp only [Bool.and_eq_true, Nat.blt_eq] at hc
        obtain ⟨c1, c2, c3⟩ := hc
        have hz := zOf_sound hty (cur := s.cur) (H := s'.H) hei
        obtain ⟨k1, k2, k3⟩ := hz.shape c1
        split at h
        · rename_i vs hvs
          obtain ⟨_, rfl⟩ := res_true h
          obtain ⟨ts, e1, e2⟩ := setElemsV_sound hp hvs (ts := List.replicate len ei.zero) ⟨by simp, fun i v t hv ht => by
            rw [List.getElem?_replicate] at hv ht
            split at hv
            · rename_i hi
              rw [if_pos hi] at ht
              simp only [Option.some.injEq] at hv ht
              subst hv ht
              exact hz
            · cases hv⟩
          have hlen := setElemsV_length hvs
          simp at hlen
          refine ⟨ti, el, ei, ts, hti, hk, hei, ⟨k3, c2, Nat.le_of_ble_eq_true c3⟩, e1, rfl, Keeps.new L _, ⟨ts, rfl, e2.1, fun i v t hv ht => (e2.2 i v t hv ht).keep (Keeps.new L _)⟩, .ownA (by simp) fun _ => ⟨by simp, fun e sz ts' h => ?_⟩⟩
          simp at h
          rw [← h.2.2, e2.1, hlen]
        · cases h
      · cases h
    · cases h
  · cases h

theorem vAlloc_sound (hty : TypOK Θ tyOf) {L : Nat} {t : TypeId} {e : VEff} (h : vAlloc Θ tyOf s L t = some (true, e)) :
    ∃ ti, Θ t = some ti ∧ ti.zero.good = true ∧ EffF s.cur s'.H e ⟨.ptr L ((s'.H L).1 + 1) [] 0, some (L, (s'.H L).1 + 1, .cells ti.zero)⟩ := by
  unfold vAlloc at h
  split at h
  · rename_i ti hti
    obtain ⟨hc, h⟩ := bif_some h
    obtain ⟨_, rfl⟩ := res_true h
    have hz := zOf_sound hty (cur := s.cur) (H := s'.H) hti
    exact ⟨ti, hti, (hz.shape hc).2.2, rfl, Keeps.new L _, ⟨_, rfl, hz.keep (Keeps.new L _)⟩, .vptr (by simp) fun _ => by simp⟩
  · cases h

theorem vBox_sound {L : Nat} {x : V} {x' : Tr} (hx : FlatR s.cur s'.H x x') {e : VEff} (h : vBox s L x = some (true, e)) :
    x'.good = true ∧ EffF s.cur s'.H e ⟨.ptr L ((s'.H L).1 + 1) [] 0, some (L, (s'.H L).1 + 1, .cells x')⟩ := by
  unfold vBox at h
  obtain ⟨hc, h⟩ := bif_some h
  obtain ⟨_, rfl⟩ := res_true h
  exact ⟨(hx.shape hc).2.2, rfl, Keeps.new L _, ⟨_, rfl, hx.keep (Keeps.new L _)⟩, .vptr (by simp) fun _ => by simp⟩

theorem sizesOf_tys (hty : TypOK Θ tyOf) : ∀ {ids : List TypeId} {cs : List Ty}, ids.map tyOf = cs.map some → sizesOf Θ ids = some (cs.map tsz)
  | [], [], _ => rfl
  | i :: ids, c :: cs, h => by
    simp only [List.map_cons, List.cons.injEq] at h
    obtain ⟨i2, tc⟩ := hty i c h.1
    simp only [sizesOf, tc.get, sizesOf_tys hty h.2, tc.size, List.map_cons]
  | [], _ :: _, h => by simp at h
  | _ :: _, [], h => by simp at h

theorem setPartsV_sound {cur : Nat → Nat} {H : Heap} {si : SId} (ho : (soffs si).length = (tys si).length) : ∀ {ps : List (Nat × V)} {qs : List (Nat × Tr)} {vs vs' : List V} {ts : List Tr}, PartsF cur H ps qs → setPartsV cur (tys si) ps vs = some vs' → FlatL cur H vs ts →
    ts.map Tr.size = (tys si).map tsz → ∃ ts', setParts (placeOf (soffs si) ((tys si).map tsz)) qs (.node (ssz si) (soffs si) ts) = some (.node (ssz si) (soffs si) ts') ∧ FlatL cur H vs' ts'
  | [], qs, vs, vs', ts, hp, h, hf, hs => by
    have : qs = [] := by have := hp.1; simpa using this
    subst this
    simp only [setPartsV, Option.some.injEq] at h
    subst h
    exact ⟨ts, rfl, hf⟩
  | (i, x) :: ps, [], vs, vs', ts, hp, h, hf, hs => by have := hp.1; simp at this
  | (i, x) :: ps, (j, y) :: qs, vs, vs', ts, hp, h, hf, hs => by
    obtain ⟨⟨h1, h2⟩, h3⟩ := hp.tail
    simp only at h1 h2
    subst h1
    simp only [setPartsV] at h
    split at h
    · rename_i c hc
      have hq := bif_some h
      simp only [Bool.and_eq_true] at hq
      obtain ⟨⟨q2, q3⟩, q4⟩ := hq
      obtain ⟨k1, k2, k3⟩ := h2.shape q3
      have hj : j < (tys si).length := (List.getElem?_eq_some_iff.1 hc).1
      have hlt : ts.length = (tys si).length := by have := congrArg List.length hs; simpa using this
      have hsz : y.size = tsz c := by rw [k1]; exact Nat.eq_of_beq_eq_true q2
      have hu : ts[j]? = some (ts[j]'(by omega)) := by simp
      have hus : (ts[j]'(by omega)).size = tsz c := by
        have := congrArg (·[j]?) hs
        simp only [List.getElem?_map, hu, hc, Option.map_some, Option.some.injEq] at this
        exact this
      have hoff : (soffs si)[j]? = some ((soffs si)[j]'(by omega)) := by simp
      obtain ⟨ts', e1, e2⟩ := setPartsV_sound ho h3 q4 (hf.set j h2) (ts := ts.set j y) (by
        rw [List.map_set, hs, hsz]
        apply List.ext_getElem?
        intro k
        rw [List.getElem?_set]
        split
        · rename_i e; subst e
          have : (tys si)[j] = c := by have := List.getElem?_eq_some_iff.1 hc; exact this.2
          simp [hj, this]
        · rfl)
      refine ⟨ts', ?_, e2⟩
      have hpl : placeOf (soffs si) ((tys si).map tsz) j = some ((soffs si)[j]'(by omega), tsz c) := by simp [placeOf, hoff, hc]
      have hat : Tr.atF 0 [j] (.node (ssz si) (soffs si) ts) = some ((soffs si)[j]'(by omega), ts[j]'(by omega)) := by simp [Tr.atF, hoff, hu]
      have hset : Tr.setF [j] y (.node (ssz si) (soffs si) ts) = some (.node (ssz si) (soffs si) (ts.set j y)) := by simp [Tr.setF, hu]
      simp only [setParts, hpl, hat, hset]
      rw [if_pos ⟨hsz, hus, trivial, k3⟩]
      exact e1
    · cases h

theorem tz_size (n : Nat) (c : Ty) (h : tzOK n c = true) : (tz n c).size = tsz c := (tz_sound n c h).shape.1

theorem soffs_len : ∀ si : SId, (soffs si).length = (tys si).length := by intro si; cases si <;> rfl

theorem setPartsA_sound {cur : Nat → Nat} {H : Heap} {n : Nat} {c : Ty} : ∀ {ps : List (Nat × V)} {qs : List (Nat × Tr)} {xs xs' : Vector (den c) n} {ts : List Tr}, PartsF cur H ps qs → setPartsA n c ps xs = some xs' → TVL c xs.toList ts →
    ∃ ts', setParts (fun j => some (j * tsz c, tsz c)) qs (.arr (tsz c) ts) = some (.arr (tsz c) ts') ∧ TVL c xs'.toList ts'
  | [], qs, xs, xs', ts, hp, h, hf => by
    have : qs = [] := by have := hp.1; simpa using this
    subst this
    simp only [setPartsA, Option.some.injEq] at h
    subst h
    exact ⟨ts, rfl, hf⟩
  | (i, x) :: ps, [], xs, xs', ts, hp, h, hf => by have := hp.1; simp at this
  | (i, x) :: ps, (j, y) :: qs, xs, xs', ts, hp, h, hf => by
    obtain ⟨⟨h1, h2⟩, h3⟩ := hp.tail
    simp only at h1 h2
    subst h1
    simp only [setPartsA] at h
    split at h
    · rename_i z hz
      have hq := bif_some h
      simp only [Nat.blt_eq] at hq
      have htv := castV_sound hz h2
      have hj : j < ts.length := by rw [hf.1]; simpa using hq.1
      have hu : ts[j]? = some ts[j] := by simp
      have hxj : xs.toList[j]? = some (xs.toList[j]'(by simpa using hq.1)) := by simp
      have hus := (hf.2 j _ _ hxj hu).shape.1
      obtain ⟨ts', e1, e2⟩ := setPartsA_sound h3 hq.2 (ts := ts.set j y) ⟨by simp [hf.1], fun k w t hw ht => by
        rw [Vector.toList_setIfInBounds, List.getElem?_set] at hw
        rw [List.getElem?_set] at ht
        by_cases hjk : j = k
        · subst hjk
          rw [if_pos rfl, if_pos (by simpa using hq.1)] at hw
          rw [if_pos rfl, if_pos hj] at ht
          simp only [Option.some.injEq] at hw ht
          subst hw ht
          exact htv
        · rw [if_neg hjk] at hw ht
          exact hf.2 k w t hw ht⟩
      refine ⟨ts', ?_, e2⟩
      have hat : Tr.atF 0 [j] (.arr (tsz c) ts) = some (j * tsz c, ts[j]) := by simp [Tr.atF, hu]
      have hset : Tr.setF [j] y (.arr (tsz c) ts) = some (.arr (tsz c) (ts.set j y)) := by simp [Tr.setF, hu]
      simp only [setParts, hat, hset]
      rw [if_pos ⟨htv.shape.1, hus, trivial, htv.shape.2.2⟩]
      exact e1
    · cases h

theorem vBuild_sound (hty : TypOK Θ tyOf) {t : TypeId} {ps : List (Nat × V)} {qs : List (Nat × Tr)} (hp : PartsF s.cur s'.H ps qs) {e : VEff} (h : vBuild Θ tyOf s t ps = some (true, e)) :
    ∃ ti, Θ t = some ti ∧ ti.zero.good = true ∧ RdOK s s' e (aBuild Θ ti qs) := by
  unfold vBuild at h
  split at h
  · rename_i si hc
    obtain ⟨ti, tc⟩ := hty t _ hc
    split at h
    · rename_i vs hvs
      obtain ⟨_, rfl⟩ := res_true h
      obtain ⟨ids, hk, hids⟩ := tc.kind
      have hzok := tc.zok
      simp only [tzOK, List.all_eq_true] at hzok
      have hf : FlatL s.cur s'.H ((tys si).map (zF 8)) ((tys si).map (tz 8)) := ⟨by simp, fun i v t hv ht => by
        rw [List.getElem?_map] at hv ht
        obtain ⟨c, hc, rfl⟩ := Option.map_eq_some_iff.1 hv
        rw [hc] at ht
        simp only [Option.map_some, Option.some.injEq] at ht
        subst ht
        exact zF_sound 8 c (hzok c (List.mem_of_getElem? hc))⟩
      obtain ⟨ts', e1, e2⟩ := setPartsV_sound (soffs_len si) hp hvs hf (by
        rw [List.map_map]
        exact List.map_congr_left fun c hc => tz_size 8 c (hzok c hc))
      refine ⟨ti, tc.get, by rw [tc.zero]; rfl, .mk ?_ (tight_sound e2)⟩
      simp only [aBuild, hk, sizesOf_tys hty hids, tc.zero, tz]
      exact e1
    · cases h
  · rename_i n c hc
    obtain ⟨ti, tc⟩ := hty t _ hc
    split at h
    · rename_i xs hxs
      obtain ⟨_, rfl⟩ := res_true h
      obtain ⟨el, hk, hel⟩ := tc.kind
      obtain ⟨ei, te⟩ := hty el c hel
      have h0 := tz_sound 9 (.arr n c) tc.zok
      have h0' : TVL c (Vector.toList (n := n) (α := den c) (dflt (.arr n c))) (List.replicate n (tz 8 c)) := by
        simp only [tz] at h0
        cases h0 with
        | arr xs ts hl ht => exact ⟨by rw [hl, vlen], ht⟩
      obtain ⟨ts', e1, e2⟩ := setPartsA_sound hp hxs h0'
      refine ⟨ti, tc.get, by rw [tc.zero]; rfl, .mk (t := .arr (tsz c) ts') ?_ (.tv (.arr _ _ (by rw [e2.1]; exact vlen (c := c) xs) e2.2))⟩
      simp only [aBuild, hk, te.get, te.size, tc.zero, tz]
      exact e1
    · cases h
  · cases h

/- Numbers. -/
def vInt (op : BinOp) (k : IntKind) (x y : Int) : Option (Bool × V) :=
  match op with
  | .add => some (true, .int k (k.wrap (x + y)))
  | .sub => some (true, .int k (k.wrap (x - y)))
  | .mul => some (true, .int k (k.wrap (x * y)))
  | .quo => some (!decide (y = 0), .int k (k.wrap (x.tdiv y)))
  | .rem => some (!decide (y = 0), .int k (x.tmod y))
  | .and => some (true, .int k (bitOf .and k x y))
  | .or => some (true, .int k (bitOf .or k x y))
  | .xor => some (true, .int k (bitOf .xor k x y))
  | .andNot => some (true, .int k (bitOf .andNot k x y))
  | .eql => some (true, .bool (x == y))
  | .neq => some (true, .bool (x != y))
  | .lss => some (true, .bool (decide (x < y)))
  | .leq => some (true, .bool (decide (x ≤ y)))
  | .gtr => some (true, .bool (decide (x > y)))
  | .geq => some (true, .bool (decide (x ≥ y)))
  | .shl => none
  | .shr => none

def vStr (op : BinOp) (x y : ByteArray) : Option (Bool × V) :=
  match op with
  | .add => some (decide (((x.size + y.size : Nat) : Int) ≤ 9223372036854775807), .str (x ++ y))
  | .eql => some (true, .bool (x.data.toList == y.data.toList))
  | .neq => some (true, .bool (!(x.data.toList == y.data.toList)))
  | .lss => some (true, .bool (Op.bytesLess x.data.toList y.data.toList))
  | .leq => some (true, .bool (Op.bytesLess x.data.toList y.data.toList || x.data.toList == y.data.toList))
  | .gtr => some (true, .bool (!(Op.bytesLess x.data.toList y.data.toList || x.data.toList == y.data.toList)))
  | .geq => some (true, .bool (!(Op.bytesLess x.data.toList y.data.toList)))
  | _ => none

theorem vInt_sound {cur : Nat → Nat} {H : Heap} {op : BinOp} {k : IntKind} {x y : Int} {v : V} (h : vInt op k x y = some (true, v)) : ∃ t, aInt op k x y = some t ∧ FlatR cur H v t := by
  cases op <;> simp only [vInt, Option.some.injEq, Prod.mk.injEq, true_and, reduceCtorEq] at h <;>
    first
    | (subst h; exact ⟨_, rfl, .int _ _⟩)
    | (subst h; exact ⟨_, rfl, .bool _⟩)
    | (obtain ⟨h1, rfl⟩ := h
       have h1 : ¬ y = 0 := by simpa using h1
       exact ⟨_, by simp only [aInt]; rw [if_neg h1], .int _ _⟩)

theorem vStr_sound {cur : Nat → Nat} {H : Heap} {op : BinOp} {x y : ByteArray} {v : V} (h : vStr op x y = some (true, v)) : ∃ t, aStr op x y = some t ∧ FlatR cur H v t := by
  cases op <;> simp only [vStr, Option.some.injEq, Prod.mk.injEq, true_and, reduceCtorEq] at h <;>
    first
    | (subst h; exact ⟨_, rfl, by simp only [ByteArray.toList_eq]; exact .bool _⟩)
    | (obtain ⟨h1, rfl⟩ := h
       refine ⟨_, ?_, .str _⟩
       simp only [aStr]
       rw [if_neg]
       have h1 : ((x.size + y.size : Nat) : Int) ≤ 9223372036854775807 := by simpa using h1
       have : IntKind.i64.max = 9223372036854775807 := by decide
       omega)

end
end Go.Proofs.Ytnonimnhninafaa.Ab
