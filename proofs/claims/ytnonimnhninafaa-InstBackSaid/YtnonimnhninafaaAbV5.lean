/- Operations on typed values: rows that are made, numbers, comparisons. -/
import Derived.Test.YtnonimnhninafaaAbV4
namespace Go.Proofs.Ytnonimnhninafaa.Ab
open Go
set_option linter.unusedVariables false
set_option linter.unusedSimpArgs false

def castEach (c : Ty) : List V → Option (List (den c))
  | [] => some []
  | v :: vs => match castV c v, castEach c vs with
    | some x, some xs => some (x :: xs)
    | _, _ => none

def vElems (s : VSt) (c : Ty) (v : V) : Option (List (den c)) :=
  match v with
  | .nils => some []
  | .tv c' x => castTo (.sl c) ⟨c', x⟩
  | .ownA d g _ => bif Nat.beq (s.cur d) g then
      match (lkH s.H d).2 with
      | .rowT _ c' xs => castTo (.sl c) ⟨.sl c', xs⟩
      | .rowV _ sz vs => bif Nat.beq sz (tsz c) then castEach c vs else none
      | _ => none
    else none
  | _ => none

def capOK (n b : Nat) : Bool := Nat.ble (n * b) 140737488355328 && Nat.ble n 9223372036854775807
theorem capOK_ok {n b : Nat} (h : capOK n b = true) : n * b ≤ 140737488355328 ∧ n ≤ maxLen := by
  simp only [capOK, Bool.and_eq_true] at h
  exact ⟨Nat.le_of_ble_eq_true h.1, by unfold maxLen; exact Nat.le_of_ble_eq_true h.2⟩
def mkOK (n m : Int) (b : Nat) : Bool := decide (0 ≤ n) && (decide (n = m) && (decide ((b : Int) * n ≤ 281474976710656) && decide (n ≤ 9223372036854775807)))
theorem mkOK_ok {n m : Int} {b : Nat} (h : mkOK n m b = true) : 0 ≤ n ∧ n = m ∧ (b : Int) * n ≤ 281474976710656 ∧ n ≤ 9223372036854775807 := by
  simpa only [mkOK, Bool.and_eq_true, decide_eq_true_eq] using h

def vAppend (Θ : Tab) (tyOf : TypeId → Option Ty) (s : VSt) (L : Nat) (t u : TypeId) (x y : V) : VRes :=
  bif Nat.beq t u then
    match Θ t with
    | some ti => match ti.kind with
      | .slice e => match Θ e, tyOf e with
        | some ei, some c => match vElems s c y with
          | some ys => bif Nat.blt 0 (tsz c) then
              match x with
              | .nils => some (capOK ys.length ei.bytes, ⟨.ownA L (s.cur L + 1) ys.length, some (L, s.cur L + 1, .rowT e c ys)⟩)
              | .ownA d g n => bif Nat.beq (s.cur d) g then
                  match (lkH s.H d).2 with
                  | .rowT e' _ _ => bif Nat.beq e' e then
                      match vElems s c (.ownA d g n) with
                      | some xs => some (capOK (n + ys.length) ei.bytes, ⟨.ownA d (g + 1) (n + ys.length), some (d, g + 1, .rowT e c (xs ++ ys))⟩)
                      | none => none
                    else none
                  | .rowV e' _ _ => bif Nat.beq e' e then
                      match vElems s c (.ownA d g n) with
                      | some xs => some (capOK (n + ys.length) ei.bytes, ⟨.ownA d (g + 1) (n + ys.length), some (d, g + 1, .rowT e c (xs ++ ys))⟩)
                      | none => none
                    else none
                  | _ => none
                else none
              | _ => none
            else none
          | none => none
        | _, _ => none
      | _ => none
    | none => none
  else none

def vCopy (Θ : Tab) (tyOf : TypeId → Option Ty) (s : VSt) (t : TypeId) (x y : V) : VRes :=
  match Θ t with
  | some ti => match ti.kind with
    | .slice e => match Θ e, tyOf e, x with
      | some ei, some c, .ownA d g n => bif Nat.beq (s.cur d) g then
          match (lkH s.H d).2 with
          | .rowT e' c' _ => match vElems s c (.ownA d g n), vElems s c y with
            | some xs, some ys => bif Nat.beq (tsz c') (tsz c) then some (true, ⟨.int .i64 ((min ys.length n : Nat) : Int), some (d, g, .rowT e' c (splice xs 0 (ys.take n)))⟩) else none
            | _, _ => none
          | _ => none
        else none
      | _, _, _ => none
    | _ => none
  | none => none

def vMakeSlice (Θ : Tab) (tyOf : TypeId → Option Ty) (s : VSt) (L : Nat) (t : TypeId) (x y : V) : VRes :=
  match Θ t, x, y with
  | some ti, .int _ n, .int _ m => match ti.kind with
    | .slice e => match Θ e, tyOf e with
      | some ei, some c => bif Nat.blt 0 (tsz c) then
          some (mkOK n m ei.bytes,
            ⟨.ownA L (s.cur L + 1) n.toNat, some (L, s.cur L + 1, .rowT e c (List.replicate n.toNat (dflt c)))⟩) else none
      | _, _ => none
    | _ => none
  | _, _, _ => none

section
variable {s : VSt} {s' : St} {Θ : Tab} {tyOf : TypeId → Option Ty}

theorem castEach_sound {cur : Nat → Nat} {H : Heap} {c : Ty} : ∀ {vs : List V} {xs : List (den c)} {ts : List Tr}, castEach c vs = some xs → FlatL cur H vs ts → TVL c xs ts
  | [], xs, ts, h, hf => by
    obtain rfl := Option.some.inj h
    exact ⟨by simpa using hf.1, fun i x t hx => by simp at hx⟩
  | v :: vs, xs, ts, h, hf => by
    simp only [castEach] at h
    split at h
    · rename_i x xs' hx hxs
      obtain rfl := Option.some.inj h
      cases ts with
      | nil => simp [FlatL] at hf
      | cons t ts =>
        obtain ⟨k1, k2⟩ := castEach_sound hxs (ts := ts) ⟨by simpa using hf.1, fun i v t hv ht => hf.2 (i + 1) v t (by simpa using hv) (by simpa using ht)⟩
        refine ⟨by simp [k1], fun i z u hz hu => ?_⟩
        cases i with
        | zero =>
          simp only [List.getElem?_cons_zero, Option.some.injEq] at hz hu
          subst hz hu
          exact castV_sound hx (hf.2 0 v _ rfl rfl)
        | succ i => exact k2 i z u (by simpa using hz) (by simpa using hu)
    · cases h

theorem castTo_sl {c c' : Ty} {xs : List (den c')} {ys : List (den c)} (h : castTo (.sl c) ⟨.sl c', xs⟩ = some ys) {ts : List Tr} (ht : TVL c' xs ts) : TVL c ys ts ∧ c' = c := by
  have e := castTo_eq h
  injection e with e1 e2
  injection e1 with e1
  subst e1
  have e2 := eq_of_heq e2
  subst e2
  exact ⟨ht, rfl⟩

theorem own_elems {H : Heap} {d e sz n : Nat} {ts : List Tr} (hr : (H d).2 = .row e sz ts) (hl : ts.length = n) : aElems H sz (.own d (H d).1 0 n) = some ts := by
  have hd : H d = ((H d).1, .row e sz ts) := by rw [← hr]
  simp only [aElems]
  rw [hd]
  simp only [true_and]
  rw [if_pos (by omega), List.drop_zero, List.take_of_length_le (by omega)]

set_option maxHeartbeats 1000000 in
theorem vElems_sound (r : Rel s s') {c : Ty} {v : V} {t : Tr} (hf : FlatR s.cur s'.H v t) {ys : List (den c)} (h : vElems s c v = some ys) : ∃ ts, aElems s'.H (tsz c) t = some ts ∧ TVL c ys ts := by
  cases hf with
  | nils =>
    have h1 : vElems s c .nils = some [] := rfl
    obtain rfl := Option.some.inj (h1.symm.trans h)
    exact ⟨[], rfl, rfl, fun i x t hx => by simp at hx⟩
  | tv hf =>
    cases hf with
    | nil =>
      unfold vElems at h
      dsimp only at h
      obtain ⟨k, e⟩ := castTo_sl (ts := []) h ⟨rfl, fun i x t hx => by simp at hx⟩
      exact ⟨[], rfl, k⟩
    | sl xs ts hl ht =>
      unfold vElems at h
      dsimp only at h
      obtain ⟨k, e⟩ := castTo_sl (ts := ts) h ⟨hl, ht⟩
      subst e
      exact ⟨ts, by simp [aElems], k⟩
    | _ => unfold vElems at h; dsimp only at h; have e := castTo_eq h; injection e with e1; cases e1
  | @ownA d g n t b1 b2 =>
    unfold vElems at h
    dsimp only at h
    have hq := bif_some h
    have hg := Nat.eq_of_beq_eq_true hq.1
    have h2 := hq.2
    have ho := r.O d
    obtain ⟨hx, hlen⟩ := b2 hg
    subst hx
    cases hrow : (lkH s.H d).2 with
    | rowT e c' xs =>
      rw [hrow] at ho h2
      simp only at h2
      obtain ⟨ts, hr, ht⟩ := ho
      obtain ⟨k, e2⟩ := castTo_sl h2 ht
      subst e2
      exact ⟨ts, own_elems hr (hlen _ _ _ hr), k⟩
    | rowV e sz vs =>
      rw [hrow] at ho h2
      simp only at h2
      obtain ⟨ts, hr, ht⟩ := ho
      have hq2 := bif_some h2
      have hz := Nat.eq_of_beq_eq_true hq2.1
      subst hz
      exact ⟨ts, own_elems hr (hlen _ _ _ hr), castEach_sound hq2.2 ht⟩
    | _ => rw [hrow] at h2; cases h2
  | _ => unfold vElems at h; dsimp only at h; cases h

theorem TVL.append {c : Ty} {xs ys : List (den c)} {ts us : List Tr} (h : TVL c xs ts) (k : TVL c ys us) : TVL c (xs ++ ys) (ts ++ us) := by
  refine ⟨by simp [h.1, k.1], fun i x t hx ht => ?_⟩
  rw [List.getElem?_append] at hx ht
  rw [h.1] at ht
  split at hx
  · rename_i hi; rw [if_pos hi] at ht; exact h.2 i x t hx ht
  · rename_i hi; rw [if_neg hi] at ht; exact k.2 _ x t hx ht

theorem TVL.take {c : Ty} {xs : List (den c)} {ts : List Tr} (h : TVL c xs ts) (n : Nat) : TVL c (xs.take n) (ts.take n) := by
  have := h.cut 0 n
  simpa using this
theorem TVL.drop {c : Ty} {xs : List (den c)} {ts : List Tr} (h : TVL c xs ts) (n : Nat) : TVL c (xs.drop n) (ts.drop n) := by
  refine ⟨by simp [h.1], fun i x t hx ht => ?_⟩
  rw [List.getElem?_drop] at hx ht
  exact h.2 _ x t hx ht

theorem tz_good : ∀ (n : Nat) (c : Ty), tzOK n c = true → (tz n c).good = true := fun n c h => (tz_sound n c h).shape.2.2

theorem row_at {H : Heap} {d e sz : Nat} {ts : List Tr} (h : (H d).2 = .row e sz ts) : H d = ((H d).1, .row e sz ts) := by rw [← h]

theorem vAppend_sound (hty : TypOK Θ tyOf) (r : Rel s s') {L : Nat} {t u : TypeId} {x y : V} {x' y' : Tr} (hx : FlatR s.cur s'.H x x') (hy : FlatR s.cur s'.H y y') {e : VEff} (h : vAppend Θ tyOf s L t u x y = some (true, e)) :
    ∃ f, aAppend Θ s'.H L t u x' y' = some f ∧ EffF s.cur s'.H e f := by
  unfold vAppend at h
  have hq := bif_some h
  have htu := hq.1
  replace h := hq.2
  clear hq
  have htu := Nat.eq_of_beq_eq_true htu
  subst htu
  split at h
  · rename_i ti hti
    split at h
    · rename_i el hk
      split at h
      · rename_i ei c hei hc
        obtain ⟨i2, tc⟩ := hty el c hc
        have hi2 : i2 = ei := by have := tc.get; rw [hei] at this; exact (Option.some.inj this).symm
        subst hi2
        split at h
        · rename_i ys hys
          have hq := bif_some h
          have hpos := hq.1
          replace h := hq.2
          clear hq
          have hpos : 0 < tsz c := by simpa [Nat.blt_eq] using hpos
          obtain ⟨us, hus, hul⟩ := vElems_sound r hy hys
          have hgood : i2.zero.good = true := by rw [tc.zero]; exact tz_good _ _ tc.zok
          have hul' := hul.1
          split at h
          · obtain ⟨hg, rfl⟩ := res_true h
            obtain ⟨g1, g2⟩ := capOK_ok hg
            cases hx
            refine ⟨⟨.own L ((s'.H L).1 + 1) 0 us.length, some (L, (s'.H L).1 + 1, .row el (tsz c) us)⟩, ?_, ?_⟩
            · simp only [aAppend, if_true, hti, hk, hei, tc.size, hus, hgood, hpos, and_self]
              rw [if_pos ⟨by rw [hul']; exact g1, by rw [hul']; exact g2⟩]
            · refine ⟨rfl, Keeps.new L _, ⟨us, rfl, hul⟩, .ownA (by simp) fun _ => ⟨by simp [hul'], fun e sz ts h => ?_⟩⟩
              simp at h
              rw [← h.2.2, hul']
          · rename_i d g n
            have hq := bif_some h
            have hcur := hq.1
            replace h := hq.2
            clear hq
            have hcur := Nat.eq_of_beq_eq_true hcur
            have ho := r.O d
            have key : ∀ e' sz ts, (s'.H d).2 = .row e' sz ts → e' = el → sz = tsz c → ∀ xs, vElems s c (.ownA d g n) = some xs →
                some (capOK (n + ys.length) i2.bytes, (⟨.ownA d (g + 1) (n + ys.length), some (d, g + 1, .rowT el c (xs ++ ys))⟩ : VEff)) = some (true, e) →
                ∃ f, aAppend Θ s'.H L t t x' y' = some f ∧ EffF s.cur s'.H e f := by
              intro e' sz ts hr he hsz xs hxs h
              subst he hsz
              obtain ⟨hg, rfl⟩ := res_true h
              obtain ⟨g1, g2⟩ := capOK_ok hg
              obtain ⟨vs, hvs, hvl⟩ := vElems_sound r hx hxs
              cases hx with
              | ownA b1 b2 =>
                obtain ⟨hxx, hlen⟩ := b2 hcur
                subst hxx
                have hl := hlen _ _ _ hr
                have hd := row_at hr
                have hvts : vs = ts := by
                  rw [own_elems hr hl] at hvs
                  exact (Option.some.inj hvs).symm
                subst hvts
                refine ⟨⟨.own d ((s'.H d).1 + 1) 0 (n + us.length), some (d, (s'.H d).1 + 1, .row e' (tsz c) (vs ++ us))⟩, ?_, ?_⟩
                · simp only [aAppend, if_true, hti, hk, hei, tc.size, hus, hgood, hpos, and_self]
                  rw [hd]
                  simp only [true_and]
                  rw [if_pos ⟨hl, by rw [hul']; exact g1, by rw [hul']; exact g2⟩]
                · subst hcur
                  refine ⟨rfl, Keeps.new d _, ⟨_, rfl, hvl.append hul⟩, .ownA (by simp) fun _ => ⟨by simp [hul'], fun e sz ts h => ?_⟩⟩
                  simp at h
                  rw [← h.2.2]
                  simp [hl, hul']
            split at h
            · rename_i e' c' zs hrow
              have hq := bif_some h
              have he := hq.1
              replace h := hq.2
              clear hq
              have he := Nat.eq_of_beq_eq_true he
              rw [hrow] at ho
              obtain ⟨ts, hr, htl⟩ := ho
              split at h
              · rename_i xs hxs
                have hc' : c' = c := by
                  have h2 := hxs
                  unfold vElems at h2
                  dsimp only at h2
                  rw [hrow] at h2
                  dsimp only at h2
                  obtain ⟨_, h2⟩ := bif_some h2
                  exact (castTo_sl h2 htl).2
                exact key _ _ _ hr he (by rw [hc']) xs hxs h
              · cases h
            · rename_i e' sz zs hrow
              have hq := bif_some h
              have he := hq.1
              replace h := hq.2
              clear hq
              have he := Nat.eq_of_beq_eq_true he
              rw [hrow] at ho
              obtain ⟨ts, hr, htl⟩ := ho
              split at h
              · rename_i xs hxs
                have hsz : sz = tsz c := by
                  have h2 := hxs
                  unfold vElems at h2
                  dsimp only at h2
                  rw [hrow] at h2
                  dsimp only at h2
                  obtain ⟨_, h2⟩ := bif_some h2
                  obtain ⟨h3, _⟩ := bif_some h2
                  exact Nat.eq_of_beq_eq_true h3
                exact key _ _ _ hr he hsz xs hxs h
              · cases h
            · cases h
          · cases h
        · cases h
      · cases h
    · cases h
  · cases h

theorem TVL.splice {c : Ty} {xs ys : List (den c)} {ts us : List Tr} (h : TVL c xs ts) (k : TVL c ys us) : TVL c (splice xs 0 ys) (splice ts 0 us) := by
  unfold Go.splice
  have e : ys.length = us.length := k.1.symm
  rw [e]
  exact (h.take 0).append (k.append (h.drop _))

theorem vCopy_sound (hty : TypOK Θ tyOf) (r : Rel s s') {t : TypeId} {x y : V} {x' y' : Tr} (hx : FlatR s.cur s'.H x x') (hy : FlatR s.cur s'.H y y') {e : VEff} (h : vCopy Θ tyOf s t x y = some (true, e)) :
    ∃ f, aCopy Θ s'.H t x' y' = some f ∧ EffF s.cur s'.H e f := by
  unfold vCopy at h
  split at h
  · rename_i ti hti
    split at h
    · rename_i el hk
      split at h
      · rename_i ei c d g n hei hc
        obtain ⟨i2, tc⟩ := hty el c hc
        have hi2 : i2 = ei := by have := tc.get; rw [hei] at this; exact (Option.some.inj this).symm
        subst hi2
        have hq := bif_some h
        have hcur := hq.1
        replace h := hq.2
        clear hq
        have hcur := Nat.eq_of_beq_eq_true hcur
        have ho := r.O d
        split at h
        · rename_i e' c' zs hrow
          split at h
          · rename_i xs ys hxs hys
            have hq := bif_some h
            have hz := hq.1
            replace h := hq.2
            clear hq
            have hz := Nat.eq_of_beq_eq_true hz
            obtain ⟨_, rfl⟩ := res_true h
            obtain ⟨us, hus, hul⟩ := vElems_sound r hy hys
            obtain ⟨vs, hvs, hvl⟩ := vElems_sound r hx hxs
            rw [hrow] at ho
            obtain ⟨ts, hr, htl⟩ := ho
            cases hx with
            | ownA b1 b2 =>
              obtain ⟨hxx, hlen⟩ := b2 hcur
              subst hxx
              have hl := hlen _ _ _ hr
              rw [hz] at hr
              have hd := row_at hr
              have hvts : vs = ts := by
                rw [own_elems hr hl] at hvs
                exact (Option.some.inj hvs).symm
              subst hvts
              have hkeep := Keeps.write (cur := s.cur) (H := s'.H) d (.row e' (tsz c) (splice vs 0 (us.take n))) (fun e sz ts h => by
                cases h
                refine ⟨_, _, _, hr, ?_⟩
                rw [length_splice]
                simp; omega)
              refine ⟨⟨.int .i64 ((min us.length n : Nat) : Int), some (d, (s'.H d).1, .row e' (tsz c) (splice vs 0 (us.take n)))⟩, ?_, rfl, ?_, ?_, ?_⟩
              · simp only [aCopy, hti, hk, hei, tc.size, hus]
                rw [hd]
                simp only [true_and]
                rw [if_pos (by omega)]
              · rw [← hcur]; exact hkeep
              · exact ⟨_, rfl, hvl.splice (hul.take n)⟩
              · rw [hul.1]; exact .int _ _
          · cases h
        · cases h
      · cases h
    · cases h
  · cases h

theorem vMakeSlice_sound (hty : TypOK Θ tyOf) (r : Rel s s') {L : Nat} {t : TypeId} {x y : V} {x' y' : Tr} (hx : FlatR s.cur s'.H x x') (hy : FlatR s.cur s'.H y y') {e : VEff} (h : vMakeSlice Θ tyOf s L t x y = some (true, e)) :
    ∃ f, aMakeSlice Θ s'.H L t x' y' = some f ∧ EffF s.cur s'.H e f := by
  unfold vMakeSlice at h
  split at h
  · rename_i ti k1 n k2 m hti
    split at h
    · rename_i el hk
      split at h
      · rename_i ei c hei hc
        obtain ⟨i2, tc⟩ := hty el c hc
        have hi2 : i2 = ei := by have := tc.get; rw [hei] at this; exact (Option.some.inj this).symm
        subst hi2
        have hq := bif_some h
        have hpos := hq.1
        replace h := hq.2
        clear hq
        have hpos : 0 < tsz c := by simpa [Nat.blt_eq] using hpos
        obtain ⟨hg, rfl⟩ := res_true h
        obtain ⟨g1, g2, g3, g4⟩ := mkOK_ok hg
        cases hx with
        | int => cases hy with
          | int =>
            have hgood : i2.zero.good = true := by rw [tc.zero]; exact tz_good _ _ tc.zok
            refine ⟨⟨.own L ((s'.H L).1 + 1) 0 n.toNat, some (L, (s'.H L).1 + 1, .row el i2.size (List.replicate n.toNat i2.zero))⟩, ?_, ?_⟩
            · simp only [aMakeSlice, hti, hk, hei]
              rw [if_pos ⟨hgood, by rw [tc.size]; exact hpos, g1, g2, g3, g4⟩]
            · refine ⟨rfl, Keeps.new L _, ⟨List.replicate n.toNat i2.zero, by rw [tc.size], by simp, fun i x t hx ht => ?_⟩, .ownA (by simp) fun _ => ⟨by simp, fun e sz ts h => ?_⟩⟩
              · rw [List.getElem?_replicate] at hx ht
                split at hx
                · rename_i hi
                  rw [if_pos hi] at ht
                  simp only [Option.some.injEq] at hx ht
                  subst hx ht
                  rw [tc.zero]
                  exact tz_sound _ _ tc.zok
                · cases hx
              · simp at h
                rw [← h.2.2]; simp
      · cases h
    · cases h
  · cases h
end
end Go.Proofs.Ytnonimnhninafaa.Ab
