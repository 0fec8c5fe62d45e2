/- Operations on typed values: memory. -/
import Derived.Test.YtnonimnhninafaaAbV2
namespace Go.Proofs.Ytnonimnhninafaa.Ab
open Go

def vLoc (o : VObj) (p : List Nat) : Option (Bool × Nat × V) :=
  match o with
  | .cells v => vAt v p 0
  | .rowT _ c xs => match p with
    | i :: p => match vAt (V.of c (xs.getD i (dflt c))) p (i * tsz c) with
      | some (g, o, u) => some (Nat.blt i xs.length && g, o, u)
      | none => none
    | [] => none
  | .rowV _ sz vs => match p with
    | i :: p => match vs[i]? with
      | some u => vAt u p (i * sz)
      | none => none
    | [] => none
  | .unk => none

def vAddr (s : VSt) (v : V) : Option (Bool × V) :=
  match v with
  | .tp c x => some (true, V.of c x)
  | .vptr d g p off => bif Nat.beq (s.cur d) g then match vLoc (lkH s.H d).2 p with
      | some (gd, o, u) => some (gd && Nat.beq o off, u)
      | none => none
    else none
  | _ => none

def vLoad (Θ : Tab) (s : VSt) (t : TypeId) (v : V) : VRes :=
  match Θ t, vAddr s v with
  | some i, some (gd, u) => bif Nat.beq (vsz u) i.size && ((vAgg u == i.kind.isAgg) && vOk s.cur u) then some (gd, ⟨u, none⟩) else none
  | _, _ => none

def vPut (o : VObj) (p : List Nat) (new : V) : Option VObj :=
  match o with
  | .cells v => match vSet v p new with
    | some u => some (.cells u)
    | none => none
  | .rowT e c xs => match p with
    | i :: p => match vSet (V.of c (xs.getD i (dflt c))) p new with
      | some u => match castV c u with
        | some y => some (.rowT e c (xs.set i y))
        | none => none
      | none => none
    | [] => none
  | .rowV e sz vs => match p with
    | i :: p => match vs[i]? with
      | some u => match vSet u p new with
        | some u' => some (.rowV e sz (vs.set i u'))
        | none => none
      | none => none
    | [] => none
  | .unk => none

def vStore (Θ : Tab) (s : VSt) (t : TypeId) (v new : V) : VRes :=
  match v with
  | .vptr d g p off => match Θ t, vAddr s (.vptr d g p off) with
    | some i, some (gd, u) => bif Nat.beq (vsz u) i.size && (Nat.beq (vsz new) i.size && (vOk s.cur u && vOk s.cur new)) then
        match vPut (lkH s.H d).2 p new with
        | some o' => some (gd, ⟨.any, some (d, g, o')⟩)
        | none => none
      else none
    | _, _ => none
  | _ => none

section
variable {s : VSt} {s' : St} {Θ : Tab}

theorem vLoc_sound {cur : Nat → Nat} {H : Heap} {o : VObj} {a : AObj} (h : ObjF cur H o a) {p : List Nat} {off : Nat} {u : V} (hl : vLoc o p = some (true, off, u)) :
    ∃ u', FlatR cur H u u' ∧ ∀ (H' : Heap) d g, H' d = (g, a) → aAt H' (.ptr d g p off) = some u' := by
  unfold vLoc at hl
  split at hl
  · rename_i v
    obtain ⟨t, rfl, hf⟩ := h
    obtain ⟨u', h1, h2⟩ := vAt_sound p 0 hf hl
    refine ⟨u', h2, fun H' d g hd => ?_⟩
    simp only [aAt, hd, if_true, h1]
  · rename_i e c xs
    split at hl
    · rename_i i p
      split at hl
      · rename_i g o u1 hv
        simp only [Option.some.injEq, Prod.mk.injEq, Bool.and_eq_true, Nat.blt_eq] at hl
        obtain ⟨⟨hi, rfl⟩, rfl, rfl⟩ := hl
        obtain ⟨ts, rfl, hl, ht⟩ := h
        have hx := getD_some (l := xs) (d := dflt c) hi
        obtain ⟨t, htt⟩ := get_of_len hl hx
        obtain ⟨u', h1, h2⟩ := vAt_sound p _ (FlatR.of (ht i _ t hx htt)) hv
        refine ⟨u', h2, fun H' d g hd => ?_⟩
        simp only [aAt, hd, if_true, htt, h1]
      · cases hl
    · cases hl
  · rename_i e sz vs
    split at hl
    · rename_i i p
      split at hl
      · rename_i u1 hu
        obtain ⟨ts, rfl, hlen, ht⟩ := h
        obtain ⟨t, htt⟩ := get_of_len hlen hu
        obtain ⟨u', h1, h2⟩ := vAt_sound p _ (ht i _ t hu htt) hl
        refine ⟨u', h2, fun H' d g hd => ?_⟩
        simp only [aAt, hd, if_true, htt, h1]
      · cases hl
    · cases hl
  · cases hl

theorem vAddr_sound (r : Rel s s') {v : V} {t : Tr} (hf : FlatR s.cur s'.H v t) {u : V} (h : vAddr s v = some (true, u)) : ∃ u', aAt s'.H t = some u' ∧ FlatR s.cur s'.H u u' := by
  unfold vAddr at h
  split at h
  · rename_i c x
    simp only [Option.some.injEq, Prod.mk.injEq, true_and] at h
    subst h
    cases hf with
    | tp h => exact ⟨_, rfl, .of h⟩
  · rename_i d g p off
    cases hg : Nat.beq (s.cur d) g with
    | false => rw [hg] at h; cases h
    | true =>
      rw [hg] at h
      simp only [cond_true] at h
      split at h
      · rename_i gd o u1 hv
        simp only [Option.some.injEq, Prod.mk.injEq, Bool.and_eq_true] at h
        obtain ⟨⟨rfl, ho⟩, rfl⟩ := h
        have ho := Nat.eq_of_beq_eq_true ho
        subst ho
        obtain ⟨u', h1, h2⟩ := vLoc_sound (r.O d) hv
        cases hf with
        | vptr _ hp =>
          rw [hp (Nat.eq_of_beq_eq_true hg)]
          exact ⟨u', h2 s'.H d _ rfl, h1⟩
      · cases h
  · cases h

theorem vLoad_sound (r : Rel s s') {t : TypeId} {v : V} {x : Tr} (hf : FlatR s.cur s'.H v x) {e : VEff} (h : vLoad Θ s t v = some (true, e)) :
    ∃ f, (aLoad Θ s'.H t x).map (fun v => (⟨v, none⟩ : Eff)) = some f ∧ EffF s.cur s'.H e f := by
  unfold vLoad at h
  split at h
  · rename_i i gd u hi hu
    cases hc : (Nat.beq (vsz u) i.size && ((vAgg u == i.kind.isAgg) && vOk s.cur u)) with
    | false => rw [hc] at h; cases h
    | true =>
      rw [hc] at h
      simp only [cond_true, Option.some.injEq, Prod.mk.injEq] at h
      obtain ⟨rfl, rfl⟩ := h
      simp only [Bool.and_eq_true, beq_iff_eq] at hc
      obtain ⟨h1, h2, h3⟩ := hc
      have h1 := Nat.eq_of_beq_eq_true h1
      obtain ⟨u', ha, hf'⟩ := vAddr_sound r hf hu
      obtain ⟨k1, k2, k3⟩ := hf'.shape h3
      refine ⟨⟨u', none⟩, ?_, hf'⟩
      simp only [aLoad, hi, ha, k1, h1, k2, h2, k3, and_self, if_true, Option.map_some]
  · cases h

theorem vPut_sound {cur : Nat → Nat} {H : Heap} {o o' : VObj} {a : AObj} (h : ObjF cur H o a) {p : List Nat} {off : Nat} {u new : V} {new' : Tr} (hn : FlatR cur H new new') (hl : vLoc o p = some (true, off, u)) (hp : vPut o p new = some o') :
    ∃ a', ObjF cur H o' a' ∧ (∀ e sz ts, a' = .row e sz ts → ∃ e' sz' ts', a = .row e' sz' ts' ∧ ts'.length = ts.length) ∧ ∀ (H' : Heap) d g x, H' d = (g, a) → aPut H' (.ptr d g p x) new' = some (d, g, a') := by
  unfold vLoc at hl
  unfold vPut at hp
  cases o with
  | cells v =>
    simp only at hl hp
    split at hp
    · rename_i u2 hu2
      simp only [Option.some.injEq] at hp
      subst hp
      obtain ⟨t, rfl, hf⟩ := h
      obtain ⟨t', h1, h2⟩ := vSet_sound hn p 0 hf hl hu2
      refine ⟨.cells t', ⟨t', rfl, h2⟩, (fun e sz ts h => by cases h), fun H' d g x hd => ?_⟩
      simp only [aPut, hd, h1, Option.map_some]
    · cases hp
  | rowT e c xs =>
    cases p with
    | nil => cases hl
    | cons i p =>
      simp only at hl hp
      split at hl
      · rename_i g o u1 hv
        simp only [Option.some.injEq, Prod.mk.injEq, Bool.and_eq_true, Nat.blt_eq] at hl
        obtain ⟨⟨hi, rfl⟩, rfl, rfl⟩ := hl
        split at hp
        · rename_i u2 hu2
          split at hp
          · rename_i y hy
            simp only [Option.some.injEq] at hp
            subst hp
            obtain ⟨ts, rfl, hlen, ht⟩ := h
            have hx := getD_some (l := xs) (d := dflt c) hi
            obtain ⟨t, htt⟩ := get_of_len hlen hx
            obtain ⟨t', h1, h2⟩ := vSet_sound hn p _ (FlatR.of (ht i _ t hx htt)) hv hu2
            refine ⟨.row e (tsz c) (ts.set i t'), ⟨_, rfl, by simp [hlen], fun j z t hz ht' => ?_⟩, (fun e1 sz1 ts1 h => by cases h; exact ⟨_, _, _, rfl, by simp⟩), fun H' d g x hd => ?_⟩
            · rw [List.getElem?_set] at hz ht'
              by_cases hij : i = j
              · subst hij
                rw [if_pos rfl, if_pos hi] at hz
                rw [if_pos rfl, if_pos (by omega)] at ht'
                simp only [Option.some.injEq] at hz ht'
                subst hz ht'
                exact castV_sound hy h2
              · rw [if_neg hij] at hz ht'
                exact ht j z t hz ht'
            · simp only [aPut, hd, htt, h1, Option.map_some]
          · cases hp
        · cases hp
      · cases hl
  | rowV e sz vs =>
    cases p with
    | nil => cases hl
    | cons i p =>
      simp only at hl hp
      split at hl
      · rename_i u1 hu
        rw [hu] at hp
        simp only at hp
        split at hp
        · rename_i u2 hu2
          simp only [Option.some.injEq] at hp
          subst hp
          obtain ⟨ts, rfl, hlen, ht⟩ := h
          obtain ⟨t, htt⟩ := get_of_len hlen hu
          obtain ⟨t', h1, h2⟩ := vSet_sound hn p _ (ht i _ t hu htt) hl hu2
          refine ⟨.row e sz (ts.set i t'), ⟨_, rfl, FlatL.set ⟨hlen, ht⟩ i h2⟩, (fun e1 sz1 ts1 h => by cases h; exact ⟨_, _, _, rfl, by simp⟩), fun H' d g x hd => ?_⟩
          simp only [aPut, hd, htt, h1, Option.map_some]
        · cases hp
      · cases hl
  | unk => cases hl

theorem upd_self' {α : Type} (f : Nat → α) (a : Nat) {x : α} (h : f a = x) : upd f a x = f := by
  funext t; simp only [upd]; split
  · rename_i e; rw [e, h]
  · rfl

theorem vStore_sound (r : Rel s s') {t : TypeId} {v new : V} {x y : Tr} (hf : FlatR s.cur s'.H v x) (hn : FlatR s.cur s'.H new y) {e : VEff} (h : vStore Θ s t v new = some (true, e)) :
    ∃ f, aStore Θ s'.H t x y = some f ∧ EffF s.cur s'.H e f := by
  unfold vStore at h
  split at h
  · rename_i d g p off
    split at h
    · rename_i i gd u hi hu
      cases hc : (Nat.beq (vsz u) i.size && (Nat.beq (vsz new) i.size && (vOk s.cur u && vOk s.cur new))) with
      | false => rw [hc] at h; cases h
      | true =>
        rw [hc] at h
        simp only [cond_true] at h
        split at h
        · rename_i o' ho'
          simp only [Option.some.injEq, Prod.mk.injEq] at h
          obtain ⟨rfl, rfl⟩ := h
          simp only [Bool.and_eq_true] at hc
          obtain ⟨h1, h2, h3, h4⟩ := hc
          have h1 := Nat.eq_of_beq_eq_true h1
          have h2 := Nat.eq_of_beq_eq_true h2
          obtain ⟨u', ha, hf'⟩ := vAddr_sound r hf hu
          obtain ⟨k1, k2, k3⟩ := hf'.shape h3
          obtain ⟨m1, m2, m3⟩ := hn.shape h4
          unfold vAddr at hu
          simp only at hu
          cases hg : Nat.beq (s.cur d) g with
          | false => rw [hg] at hu; cases hu
          | true =>
            rw [hg] at hu
            simp only [cond_true] at hu
            split at hu
            · rename_i gd o u1 hv
              simp only [Option.some.injEq, Prod.mk.injEq, Bool.and_eq_true] at hu
              obtain ⟨⟨rfl, ho⟩, rfl⟩ := hu
              have hg := Nat.eq_of_beq_eq_true hg
              obtain ⟨a', p1, p2, p3⟩ := vPut_sound (r.O d) hn hv ho'
              cases hf with
              | vptr _ hp =>
                have hx := hp hg
                subst hx
                refine ⟨⟨.any, some (d, (s'.H d).1, a')⟩, ?_, rfl, ?_, ?_, .any _⟩
                · simp only [aStore, hi, ha, k1, h1, m1, h2, m3, and_self, if_true, p3 s'.H d _ off rfl]
                · rw [← hg]; exact Keeps.write d a' p2
                · have hk := Keeps.write (cur := s.cur) (H := s'.H) d a' p2
                  rw [← hg]
                  exact p1.keep hk
            · cases hu
        · cases h
    · cases h
  · cases h
end
end Go.Proofs.Ytnonimnhninafaa.Ab
