/- Operations on typed values: parts, indexes, cuts. -/
import Derived.Test.YtnonimnhninafaaAbV3
namespace Go.Proofs.Ytnonimnhninafaa.Ab
open Go
set_option linter.unusedVariables false
set_option linter.unusedSimpArgs false

def lbeq : List Nat → List Nat → Bool
  | [], [] => true
  | a :: as, b :: bs => Nat.beq a b && lbeq as bs
  | _, _ => false
theorem lbeq_eq : ∀ {a b : List Nat}, lbeq a b = true → a = b
  | [], [], _ => rfl
  | a :: as, b :: bs, h => by
    simp only [lbeq, Bool.and_eq_true] at h
    rw [Nat.eq_of_beq_eq_true h.1, lbeq_eq h.2]
  | [], _ :: _, h => by simp [lbeq] at h
  | _ :: _, [], h => by simp [lbeq] at h

def vFieldAddr (Θ : Tab) (s : VSt) (t : TypeId) (v : V) (f : Nat) : VRes :=
  match Θ t with
  | some i => match i.kind with
    | .struct offs tids => match offs[f]?, tids[f]? with
      | some o, some tf => match Θ tf with
        | some ti => bif Nat.beq ti.size 0 then none else match v with
          | .vptr d g p off => bif Nat.beq (s.cur d) g then some (true, ⟨.vptr d g (p ++ [f]) (off + o), none⟩) else none
          | .tp (.st si) x => match (parts si x)[f]? with
            | some q => bif lbeq (soffs si) offs then some (true, ⟨.tp q.1 q.2, none⟩) else none
            | none => none
          | _ => none
        | none => none
      | _, _ => none
    | _ => none
  | none => none

def stId : V → Option SId
  | .tv (.st s) _ => some s
  | .node s _ => some s
  | _ => none

def vField (Θ : Tab) (s : VSt) (t : TypeId) (v : V) (f : Nat) : VRes :=
  match Θ t with
  | some i => match i.kind with
    | .struct offs tids => match tids[f]?, stId v with
      | some tf, some si => match Θ tf, kid v f with
        | some ti, some (g, _, u) => bif lbeq (soffs si) offs && (Nat.beq (vsz u) ti.size && ((vAgg u == ti.kind.isAgg) && vOk s.cur u)) then some (g, ⟨u, none⟩) else none
        | _, _ => none
      | _, _ => none
    | _ => none
  | none => none

def vIndexAddr (Θ : Tab) (s : VSt) (t : TypeId) (v i : V) : VRes :=
  match Θ t, i with
  | some ti, .int _ n => match ti.kind with
    | .slice e => match Θ e with
      | some ei => match v with
        | .tv (.sl c) xs => bif Nat.beq (tsz c) ei.size then some (decide (0 ≤ n) && decide (n < (List.length (α := den c) xs : Int)), ⟨.tp c (List.getD (α := den c) xs n.toNat (dflt c)), none⟩) else none
        | .ownA d g m => bif Nat.beq (s.cur d) g then
            match (lkH s.H d).2 with
            | .rowT _ c _ => bif Nat.beq (tsz c) ei.size then some (decide (0 ≤ n) && decide (n < (m : Int)), ⟨.vptr d g [n.toNat] (n.toNat * ei.size), none⟩) else none
            | .rowV _ sz _ => bif Nat.beq sz ei.size then some (decide (0 ≤ n) && decide (n < (m : Int)), ⟨.vptr d g [n.toNat] (n.toNat * ei.size), none⟩) else none
            | _ => none
          else none
        | _ => none
      | none => none
    | .array m e => match Θ e with
      | some ei => match v with
        | .vptr d g p off => bif Nat.beq (s.cur d) g then some (decide (0 ≤ n) && decide (n < (m : Int)), ⟨.vptr d g (p ++ [n.toNat]) (off + n.toNat * ei.size), none⟩) else none
        | .tp (.arr m' c) xs => bif Nat.beq (tsz c) ei.size && Nat.beq m' m then some (decide (0 ≤ n) && decide (n < (m : Int)), ⟨.tp c ((Vector.toList (n := m') (α := den c) xs).getD n.toNat (dflt c)), none⟩) else none
        | _ => none
      | none => none
    | _ => none
  | _, _ => none

def byteAt (b : ByteArray) (n : Nat) : UInt8 := b.data.getD n 0

def vIndex (Θ : Tab) (s : VSt) (t : TypeId) (v i : V) : VRes :=
  match Θ t, i with
  | some ti, .int _ n => match ti.kind with
    | .str => match v with
      | .str b => some (decide (0 ≤ n) && decide (n < (b.size : Int)), ⟨.int .u8 (byteAt b n.toNat).toNat, none⟩)
      | _ => none
    | .array m e => match Θ e, v with
      | some ei, .tv (.arr m' c) xs => bif Nat.beq (tsz c) ei.size && (Nat.beq m' m && (tAgg c == ei.kind.isAgg)) then some (decide (0 ≤ n) && decide (n < (m : Int)), ⟨V.of c ((Vector.toList (n := m') (α := den c) xs).getD n.toNat (dflt c)), none⟩) else none
      | _, _ => none
    | _ => none
  | _, _ => none

def vBound (x : Option V) (dflt : Int) : Option Int :=
  match x with
  | none => some dflt
  | some (.int _ n) => some n
  | _ => none

def vSlice (Θ : Tab) (s : VSt) (t : TypeId) (v : V) (lo hi : Option V) : VRes :=
  match Θ t with
  | some ti => match ti.kind with
    | .str => match v with
      | .str b => match vBound lo 0, vBound hi b.size with
        | some l, some h => some (decide (0 ≤ l) && (decide (l ≤ h) && decide (h ≤ (b.size : Int))), ⟨.str (b.extract l.toNat h.toNat), none⟩)
        | _, _ => none
      | _ => none
    | .slice e => match v with
      | .tv (.sl c) xs => match Θ e, vBound lo 0, vBound hi (List.length (α := den c) xs) with
        | some ei, some l, some h => bif Nat.beq (tsz c) ei.size then some (decide (0 ≤ l) && (decide (l ≤ h) && decide (h ≤ (List.length (α := den c) xs : Int))), ⟨.tv (.sl c) (((xs : List (den c)).take h.toNat).drop l.toNat), none⟩) else none
        | _, _, _ => none
      | _ => none
    | _ => none
  | none => none

def vLen (Θ : Tab) (s : VSt) (t : TypeId) (v : V) : VRes :=
  match Θ t with
  | some ti => match ti.kind with
    | .str => match v with
      | .str b => some (true, ⟨.int .i64 (b.size : Int), none⟩)
      | _ => none
    | .slice _ => match v with
      | .tv (.sl c) xs => some (true, ⟨.int .i64 (List.length (α := den c) xs : Int), none⟩)
      | .nils => some (true, ⟨.int .i64 0, none⟩)
      | .ownA d g m => bif Nat.beq (s.cur d) g then
          match (lkH s.H d).2 with
          | .rowT _ _ _ => some (true, ⟨.int .i64 (m : Int), none⟩)
          | .rowV _ _ _ => some (true, ⟨.int .i64 (m : Int), none⟩)
          | _ => none
        else none
      | _ => none
    | .array n _ => some (true, ⟨.int .i64 (n : Int), none⟩)
    | .ptr a => match Θ a with
      | some ai => match ai.kind with
        | .array n _ => some (true, ⟨.int .i64 (n : Int), none⟩)
        | _ => none
      | none => none
    | _ => none
  | none => none

section
variable {s : VSt} {s' : St} {Θ : Tab}

/-- A read: nothing is made. -/
abbrev RdOK (s : VSt) (s' : St) (e : VEff) (r : Option Tr) : Prop := ∃ f, r.map (fun v => (⟨v, none⟩ : Eff)) = some f ∧ EffF s.cur s'.H e f

theorem RdOK.mk {v : V} {t : Tr} {r : Option Tr} (h : r = some t) (hf : FlatR s.cur s'.H v t) : RdOK s s' ⟨v, none⟩ r := ⟨⟨t, none⟩, by rw [h]; rfl, hf⟩

theorem bif_some {α : Type} {c : Bool} {x : Option α} {y : α} (h : (bif c then x else none) = some y) : c = true ∧ x = some y := by
  cases c with
  | true => exact ⟨rfl, h⟩
  | false => cases h
theorem bif_some' {α : Type} {c : Bool} {x : Option α} {y : α} (h : (bif c then none else x) = some y) : c = false ∧ x = some y := by
  cases c with
  | false => exact ⟨rfl, h⟩
  | true => cases h
theorem beq_ne {a b : Nat} (h : Nat.beq a b = false) : a ≠ b := by
  intro e; subst e; simp at h
theorem res_true {g : Bool} {e e' : VEff} (h : some (g, e) = some (true, e')) : g = true ∧ e = e' := by
  simpa using h

theorem vFieldAddr_sound (r : Rel s s') {t : TypeId} {v : V} {x : Tr} {f : Nat} (hf : FlatR s.cur s'.H v x) {e : VEff} (h : vFieldAddr Θ s t v f = some (true, e)) : RdOK s s' e (aFieldAddr Θ s'.H t x f) := by
  unfold vFieldAddr at h
  split at h
  · rename_i i hi
    split at h
    · rename_i offs tids hk
      split at h
      · rename_i o tf ho htf
        split at h
        · rename_i ti hti
          obtain ⟨h0, h⟩ := bif_some' h
          have h0 := beq_ne h0
          split at h
          · rename_i d g p off _
            obtain ⟨hg, h⟩ := bif_some h
            obtain ⟨_, rfl⟩ := res_true h
            have hg := Nat.eq_of_beq_eq_true hg
            cases hf with
            | vptr h1 h2 =>
              have hx := h2 hg
              subst hx
              refine .mk (t := .ptr d (s'.H d).1 (p ++ [f]) (off + o)) ?_ (.vptr h1 fun _ => rfl)
              simp only [aFieldAddr, hi, hk, ho, htf, hti, h0, if_false, if_true]
          · rename_i si x'
            split at h
            · rename_i q hq
              obtain ⟨hl, h⟩ := bif_some h
              obtain ⟨_, rfl⟩ := res_true h
              have hl := lbeq_eq hl
              subst hl
              cases hf with
              | tp h1 =>
                cases h1 with
                | st s x ts hlen ht =>
                  obtain ⟨u, hu⟩ := get_of_len hlen hq
                  refine .mk (t := .iptr u) ?_ (.tp (ht f q u hq hu))
                  simp only [aFieldAddr, hi, hk, ho, htf, hti, h0, if_false, if_true, hu, Option.map_some]
            · cases h
          · cases h
        · cases h
      · cases h
    · cases h
  · cases h

theorem stId_shape {cur : Nat → Nat} {H : Heap} {v : V} {x : Tr} {si : SId} (hf : FlatR cur H v x) (h : stId v = some si) : ∃ ts, x = .node (ssz si) (soffs si) ts := by
  unfold stId at h
  split at h
  · simp only [Option.some.injEq] at h; subst h
    cases hf with
    | tv h => cases h with
      | st s x ts hl h => exact ⟨ts, rfl⟩
  · simp only [Option.some.injEq] at h; subst h
    cases hf with
    | node hl h => exact ⟨_, rfl⟩
  · cases h

theorem vField_sound {t : TypeId} {v : V} {x : Tr} {f : Nat} (hf : FlatR s.cur s'.H v x) {e : VEff} (h : vField Θ s t v f = some (true, e)) : RdOK s s' e (aField Θ t x f) := by
  unfold vField at h
  split at h
  · rename_i i hi
    split at h
    · rename_i offs tids hk
      split at h
      · rename_i tf si htf hsi
        split at h
        · rename_i ti g o u hti hkid
          obtain ⟨hc, h⟩ := bif_some h
          obtain ⟨rfl, rfl⟩ := res_true h
          simp only [Bool.and_eq_true, beq_iff_eq] at hc
          obtain ⟨h1, h2, h3, h4⟩ := hc
          have h1 := lbeq_eq h1
          have h2 := Nat.eq_of_beq_eq_true h2
          obtain ⟨u', hu', hat⟩ := kid_sound hf hkid
          obtain ⟨k1, k2, k3⟩ := hu'.shape h4
          obtain ⟨ts, rfl⟩ := stId_shape hf hsi
          have := hat 0 []
          simp only [Tr.atF] at this
          split at this
          · rename_i o1 x1 ho1 hx1
            simp only [Option.some.injEq, Prod.mk.injEq] at this
            obtain ⟨_, rfl⟩ := this
            refine .mk (t := x1) ?_ hu'
            simp only [aField, hi, hk, htf, hx1, hti, h1, k1, h2, k2, h3, k3, and_self, if_true]
          · cases this
        · cases h
      · cases h
    · cases h
  · cases h

theorem dec_and {p q : Prop} [Decidable p] [Decidable q] (h : (decide p && decide q) = true) : p ∧ q := by simpa using h

theorem vIndexAddr_sound (r : Rel s s') {t : TypeId} {v i : V} {x y : Tr} (hf : FlatR s.cur s'.H v x) (hi : FlatR s.cur s'.H i y) {e : VEff} (h : vIndexAddr Θ s t v i = some (true, e)) : RdOK s s' e (aIndexAddr Θ s'.H t x y) := by
  unfold vIndexAddr at h
  split at h
  · rename_i ti k n hti
    cases hi with
    | int k n =>
    split at h
    · rename_i el hk
      split at h
      · rename_i ei hei
        split at h
        · rename_i c xs
          obtain ⟨hz, h⟩ := bif_some h
          have hz := Nat.eq_of_beq_eq_true hz
          obtain ⟨hg, rfl⟩ := res_true h
          obtain ⟨h0, h1⟩ := dec_and hg
          have hx := getD_some (l := (xs : List (den c))) (d := dflt c) (i := n.toNat) (by omega)
          cases hf with
          | tv hf =>
            cases hf with
            | nil => simp at h1; omega
            | sl xs ts hl ht =>
              obtain ⟨u, hu⟩ := get_of_len hl hx
              refine .mk (t := .iptr u) ?_ (.tp (ht _ _ u hx hu))
              simp only [aIndexAddr, hti, hk, hei, hz, h0, and_self, if_true, hu, Option.map_some]
        · rename_i d g m
          obtain ⟨hg, h⟩ := bif_some h
          have hg := Nat.eq_of_beq_eq_true hg
          have ho := r.O d
          cases hf with
          | ownA b1 b2 =>
            obtain ⟨hx, hlen⟩ := b2 hg
            subst hx
            split at h
            · rename_i e1 c xs hrow
              obtain ⟨hz, h⟩ := bif_some h
              have hz := Nat.eq_of_beq_eq_true hz
              obtain ⟨hgd, rfl⟩ := res_true h
              obtain ⟨h0, h1⟩ := dec_and hgd
              rw [hrow] at ho
              obtain ⟨ts, hr, _⟩ := ho
              have hl := hlen _ _ _ hr
              have hd : s'.H d = ((s'.H d).1, .row e1 (tsz c) ts) := by rw [← hr]
              refine .mk (t := .ptr d (s'.H d).1 [0 + n.toNat] ((0 + n.toNat) * ei.size)) ?_ (.vptr b1 fun _ => by rw [Nat.zero_add])
              simp only [aIndexAddr, hti, hk, hei]
              rw [hd]
              simp only [hz, true_and]
              rw [if_pos ⟨h0, h1, by omega⟩]
            · rename_i e1 sz vs hrow
              obtain ⟨hz, h⟩ := bif_some h
              have hz := Nat.eq_of_beq_eq_true hz
              obtain ⟨hgd, rfl⟩ := res_true h
              obtain ⟨h0, h1⟩ := dec_and hgd
              rw [hrow] at ho
              obtain ⟨ts, hr, _⟩ := ho
              have hl := hlen _ _ _ hr
              have hd : s'.H d = ((s'.H d).1, .row e1 sz ts) := by rw [← hr]
              refine .mk (t := .ptr d (s'.H d).1 [0 + n.toNat] ((0 + n.toNat) * ei.size)) ?_ (.vptr b1 fun _ => by rw [Nat.zero_add])
              simp only [aIndexAddr, hti, hk, hei]
              rw [hd]
              simp only [hz, true_and]
              rw [if_pos ⟨h0, h1, by omega⟩]
            · cases h
        · cases h
      · cases h
    · rename_i m el hk
      split at h
      · rename_i ei hei
        split at h
        · rename_i d g p off
          obtain ⟨hg, h⟩ := bif_some h
          obtain ⟨hgd, rfl⟩ := res_true h
          obtain ⟨h0, h1⟩ := dec_and hgd
          have hg := Nat.eq_of_beq_eq_true hg
          cases hf with
          | vptr b1 b2 =>
            have hx := b2 hg
            subst hx
            refine .mk (t := .ptr d (s'.H d).1 (p ++ [n.toNat]) (off + n.toNat * ei.size)) ?_ (.vptr b1 fun _ => rfl)
            simp only [aIndexAddr, hti, hk, hei]
            rw [if_pos ⟨trivial, h0, h1⟩]
        · rename_i m' c xs
          obtain ⟨hz, h⟩ := bif_some h
          simp only [Bool.and_eq_true] at hz
          have hz1 := Nat.eq_of_beq_eq_true hz.1
          have hz2 := Nat.eq_of_beq_eq_true hz.2
          subst hz2
          obtain ⟨hgd, rfl⟩ := res_true h
          obtain ⟨h0, h1⟩ := dec_and hgd
          have hx := getD_some (l := Vector.toList (n := m') (α := den c) xs) (d := dflt c) (i := n.toNat) (by rw [vlen]; omega)
          cases hf with
          | tp hf =>
            cases hf with
            | arr xs ts hl ht =>
              obtain ⟨u, hu⟩ := get_of_len (hl.trans (vlen (c := c) xs).symm) hx
              refine .mk (t := .iptr u) ?_ (.tp (ht _ _ u hx hu))
              simp only [aIndexAddr, hti, hk, hei]
              rw [if_pos ⟨hz1, h0, h1⟩, hu]
              rfl
        · cases h
      · cases h
    · cases h
  · cases h

theorem byteAt_get {b : ByteArray} {n : Nat} (h : n < b.size) : b[n]? = some (byteAt b n) := by
  have h' : n < b.data.size := h
  rw [getElem?_pos b n h]
  simp only [byteAt, Array.getD, h', dite_true]
  rfl

theorem vIndex_sound {t : TypeId} {v i : V} {x y : Tr} (hf : FlatR s.cur s'.H v x) (hi : FlatR s.cur s'.H i y) {e : VEff} (h : vIndex Θ s t v i = some (true, e)) : RdOK s s' e (aIndex Θ t x y) := by
  unfold vIndex at h
  split at h
  · rename_i ti k n hti
    cases hi with
    | int k n =>
    split at h
    · rename_i hk
      split at h
      · rename_i b
        obtain ⟨hgd, rfl⟩ := res_true h
        obtain ⟨h0, h1⟩ := dec_and hgd
        cases hf
        refine .mk (t := .int .u8 (byteAt b n.toNat).toNat) ?_ (.int _ _)
        simp only [aIndex, hti, hk, h0, if_true]
        rw [byteAt_get (by omega)]
        rfl
      · cases h
    · rename_i m el hk
      split at h
      · rename_i ei m' c xs hei
        obtain ⟨hz, h⟩ := bif_some h
        simp only [Bool.and_eq_true, beq_iff_eq] at hz
        have hz1 := Nat.eq_of_beq_eq_true hz.1
        have hz2 := Nat.eq_of_beq_eq_true hz.2.1
        have hz3 := hz.2.2
        subst hz2
        obtain ⟨hgd, rfl⟩ := res_true h
        obtain ⟨h0, h1⟩ := dec_and hgd
        have hx := getD_some (l := Vector.toList (n := m') (α := den c) xs) (d := dflt c) (i := n.toNat) (by rw [vlen]; omega)
        cases hf with
        | tv hf =>
          cases hf with
          | arr xs ts hl ht =>
            obtain ⟨u, hu⟩ := get_of_len (hl.trans (vlen (c := c) xs).symm) hx
            obtain ⟨k1, k2, k3⟩ := (ht _ _ u hx hu).shape
            refine .mk (t := u) ?_ (.of (ht _ _ u hx hu))
            simp only [aIndex, hti, hk, hei, hu]
            rw [if_pos ⟨hz1, h0, h1, k2.trans hz3, k3⟩]
      · cases h
    · cases h
  · cases h

def BndF (cur : Nat → Nat) (H : Heap) (v : Option V) (x : Option Tr) : Prop :=
  match v, x with
  | none, none => True
  | some v, some t => FlatR cur H v t
  | _, _ => False
theorem vBound_sound {cur : Nat → Nat} {H : Heap} {v : Option V} {d n : Int} (h : vBound v d = some n) (x : Option Tr) (hf : BndF cur H v x) : aBound x d = some n := by
  unfold BndF at hf
  cases v with
  | none => cases x with
    | none => exact h
    | some t => exact hf.elim
  | some v => cases x with
    | none => exact hf.elim
    | some t =>
      cases hf <;> simp [vBound] at h
      subst h; rfl

theorem TVL.cut {c : Ty} {xs : List (den c)} {ts : List Tr} (h : TVL c xs ts) (a b : Nat) : TVL c ((xs.take b).drop a) ((ts.take b).drop a) := by
  refine ⟨by simp [h.1], fun i x t hx ht' => ?_⟩
  rw [List.getElem?_drop, List.getElem?_take] at hx ht'
  split at hx
  · rename_i hi
    rw [if_pos hi] at ht'
    exact h.2 _ _ _ hx ht'
  · cases hx

theorem vSlice_sound {t : TypeId} {v : V} {x : Tr} {lo hi : Option V} {lo' hi' : Option Tr} (hf : FlatR s.cur s'.H v x) (hlo : BndF s.cur s'.H lo lo')
    (hhi : BndF s.cur s'.H hi hi') {e : VEff} (h : vSlice Θ s t v lo hi = some (true, e)) : RdOK s s' e (aSlice Θ s'.H t x lo' hi') := by
  unfold vSlice at h
  split at h
  · rename_i ti hti
    split at h
    · rename_i hk
      split at h
      · rename_i b
        split at h
        · rename_i l h' hl hh
          obtain ⟨hgd, rfl⟩ := res_true h
          simp only [Bool.and_eq_true, decide_eq_true_eq] at hgd
          cases hf
          refine .mk (t := .str (b.extract l.toNat h'.toNat)) ?_ (.str _)
          simp only [aSlice, hti, hk, vBound_sound hl lo' hlo, vBound_sound hh hi' hhi]
          rw [if_pos hgd]
        · cases h
      · cases h
    · rename_i el hk
      split at h
      · rename_i c xs
        split at h
        · rename_i ei l h' hei hl hh
          obtain ⟨hz, h⟩ := bif_some h
          have hz := Nat.eq_of_beq_eq_true hz
          obtain ⟨hgd, rfl⟩ := res_true h
          simp only [Bool.and_eq_true, decide_eq_true_eq] at hgd
          obtain ⟨g1, g2, g3⟩ := hgd
          cases hf with
          | tv hf =>
            cases hf with
            | nil =>
              have e0 : l = 0 := by simp at g3; omega
              have e1 : h' = 0 := by simp at g3; omega
              subst e0 e1
              refine .mk (t := .nils) ?_ (.tv (by simpa using TVR.nil c))
              have hl' := vBound_sound hl lo' hlo
              have hh' := vBound_sound hh hi' hhi
              simp only [List.length_nil, Int.natCast_zero] at hh'
              simp only [aSlice, hti, hk, hei, hl', hh']
            | sl xs ts hlen ht =>
              have hh' := vBound_sound hh hi' hhi
              have hcut := TVL.cut (c := c) (xs := xs) ⟨hlen, ht⟩ l.toNat h'.toNat
              refine .mk (t := .sl (tsz c) ((ts.take h'.toNat).drop l.toNat)) ?_ (.tv (.sl _ _ hcut.1 hcut.2))
              simp only [aSlice, hti, hk, hei, vBound_sound hl lo' hlo, hlen, hh']
              rw [if_pos ⟨hz, g1, g2, g3⟩]
        · cases h
      · cases h
    · cases h
  · cases h

theorem vLen_sound (r : Rel s s') {t : TypeId} {v : V} {x : Tr} (hf : FlatR s.cur s'.H v x) {e : VEff} (h : vLen Θ s t v = some (true, e)) : RdOK s s' e (aLen Θ s'.H t x) := by
  unfold vLen at h
  split at h
  · rename_i ti hti
    split at h
    · rename_i hk
      split at h
      · obtain ⟨_, rfl⟩ := res_true h
        cases hf
        exact .mk (by simp only [aLen, hti, hk]) (.int _ _)
      · cases h
    · rename_i el hk
      split at h
      · rename_i c xs
        obtain ⟨_, rfl⟩ := res_true h
        cases hf with
        | tv hf =>
          cases hf with
          | nil => exact .mk (t := .int .i64 0) (by simp only [aLen, hti, hk]) (.int _ _)
          | sl xs ts hl ht => exact .mk (t := .int .i64 ts.length) (by simp only [aLen, hti, hk]) (by rw [hl]; exact .int _ _)
      · obtain ⟨_, rfl⟩ := res_true h
        cases hf
        exact .mk (by simp only [aLen, hti, hk]) (.int _ _)
      · rename_i d g m
        obtain ⟨hg, h⟩ := bif_some h
        have hg := Nat.eq_of_beq_eq_true hg
        have ho := r.O d
        cases hf with
        | ownA b1 b2 =>
          obtain ⟨hx, hlen⟩ := b2 hg
          subst hx
          split at h
          · rename_i e1 c xs hrow
            obtain ⟨_, rfl⟩ := res_true h
            rw [hrow] at ho
            obtain ⟨ts, hr, _⟩ := ho
            have hd : s'.H d = ((s'.H d).1, .row e1 (tsz c) ts) := by rw [← hr]
            refine .mk (t := .int .i64 m) ?_ (.int _ _)
            simp only [aLen, hti, hk]
            rw [hd]
            simp
          · rename_i e1 sz vs hrow
            obtain ⟨_, rfl⟩ := res_true h
            rw [hrow] at ho
            obtain ⟨ts, hr, _⟩ := ho
            have hd : s'.H d = ((s'.H d).1, .row e1 sz ts) := by rw [← hr]
            refine .mk (t := .int .i64 m) ?_ (.int _ _)
            simp only [aLen, hti, hk]
            rw [hd]
            simp
          · cases h
      · cases h
    · rename_i n el hk
      obtain ⟨_, rfl⟩ := res_true h
      exact .mk (t := .int .i64 n) (by simp only [aLen, hti, hk]) (.int _ _)
    · rename_i a hk
      split at h
      · rename_i ai hai
        split at h
        · rename_i n el hk2
          obtain ⟨_, rfl⟩ := res_true h
          exact .mk (t := .int .i64 n) (by simp only [aLen, hti, hk, hai, hk2]) (.int _ _)
        · cases h
      · cases h
    · cases h
  · cases h
end
end Go.Proofs.Ytnonimnhninafaa.Ab
