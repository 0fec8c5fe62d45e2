/- The reckoning of code on typed values. -/
import Derived.Test.YtnonimnhninafaaAbV9
namespace Go.Proofs.Ytnonimnhninafaa.Ab
open Go
set_option linter.unusedVariables false
set_option linter.unusedSimpArgs false

mutual
/-- A value as a typed one, where it is handed on: rows of the call's own are told as what they hold. -/
def castX (Hl : List (Nat × (Nat × VObj))) : V → (c : Ty) → Option (den c)
  | .nils, c => match c with
    | .sl _ => some ([] : List _)
    | _ => none
  | .node s vs, c => match castXL Hl vs (tys s) with
    | some h => castTo c ⟨.st s, ofH s h⟩
    | none => none
  | .ownA d g _, c => bif Nat.beq (lkH Hl d).1 g then
      match (lkH Hl d).2 with
      | .rowT _ c' xs => castTo c ⟨.sl c', xs⟩
      | .rowV _ sz vs => match c with
        | .sl c' => bif Nat.beq sz (tsz c') then castEach c' vs else none
        | _ => none
      | _ => none
    else none
  | .tv c' x, c => castTo c ⟨c', x⟩
  | .int k n, c => castTo c ⟨.int k, n⟩
  | .bool b, c => castTo c ⟨.bool, b⟩
  | .str s, c => castTo c ⟨.str, s⟩
  | .any, _ => none
  | .kn _, _ => none
  | .skip, _ => none
  | .nilp, _ => none
  | .nilf, _ => none
  | .tp _ _, _ => none
  | .vptr _ _ _ _, _ => none
  | .clo _ _, _ => none
  | .tup _, _ => none
def castXL (Hl : List (Nat × (Nat × VObj))) : List V → (cs : List Ty) → Option (HL cs)
  | [], cs => match cs with
    | [] => some ()
    | _ :: _ => none
  | v :: vs, cs => match cs with
    | c :: cs => match castX Hl v c, castXL Hl vs cs with
      | some x, some h => some (x, h)
      | _, _ => none
    | [] => none
end

mutual
def labs : V → List Nat
  | .vptr d _ _ _ => [d]
  | .ownA d _ _ => [d]
  | .node _ vs => labsL vs
  | .tup vs => labsL vs
  | .clo _ vs => labsL vs
  | .any => []
  | .kn _ => []
  | .skip => []
  | .int _ _ => []
  | .bool _ => []
  | .str _ => []
  | .nilp => []
  | .nils => []
  | .nilf => []
  | .tv _ _ => []
  | .tp _ _ => []
def labsL : List V → List Nat
  | [] => []
  | v :: vs => labs v ++ labsL vs
end

section
variable {cur : Nat → Nat} {H : Heap}

theorem labsL_mem : ∀ {vs : List V} {v : V} {d : Nat}, v ∈ vs → d ∈ labs v → d ∈ labsL vs
  | u :: vs, v, d, hv, hd => by
    simp only [labsL, List.mem_append]
    rcases List.mem_cons.1 hv with rfl | hv
    · exact .inl hd
    · exact .inr (labsL_mem hv hd)

theorem FlatR.congr {H' : Heap} {v : V} {t : Tr} (h : FlatR cur H v t) : (∀ d ∈ labs v, H' d = H d) → FlatR cur H' v t := by
  induction h with
  | any t => intro _; exact .any t
  | skip => intro _; exact .skip
  | int k n => intro _; exact .int k n
  | bool b => intro _; exact .bool b
  | kn b => intro _; exact .kn b
  | str s => intro _; exact .str s
  | nilp => intro _; exact .nilp
  | nils => intro _; exact .nils
  | nilf => intro _; exact .nilf
  | tv h => intro _; exact .tv h
  | tp h => intro _; exact .tp h
  | @vptr d g p off t hg h => intro hd; exact .vptr hg fun e => by rw [h e, hd d (by simp [labs])]
  | @ownA d g n t hg h =>
    intro hd
    refine .ownA hg fun e => ?_
    rw [hd d (by simp [labs])]
    exact h e
  | clo hl h ih => intro hd; exact .clo hl fun i v t hv ht => ih i v t hv ht fun d hd' => hd d (by simp only [labs]; exact labsL_mem (List.mem_of_getElem? hv) hd')
  | tup hl h ih => intro hd; exact .tup hl fun i v t hv ht => ih i v t hv ht fun d hd' => hd d (by simp only [labs]; exact labsL_mem (List.mem_of_getElem? hv) hd')
  | node hl h ih => intro hd; exact .node hl fun i v t hv ht => ih i v t hv ht fun d hd' => hd d (by simp only [labs]; exact labsL_mem (List.mem_of_getElem? hv) hd')

theorem TVR.frz {c : Ty} {x : den c} {t : Tr} (h : TVR c x t) (D : Nat → Bool) : TVR c x (frz H D t) := by rw [frz_lf H D t h.lf]; exact h

mutual
theorem frz_none_id (H : Heap) : ∀ t : Tr, frz H (fun _ => false) t = t
  | .node sz os xs => by simp only [frz]; rw [frzL_none_id H xs]
  | .arr sz xs => by simp only [frz]; rw [frzL_none_id H xs]
  | .tup xs => by simp only [frz]; rw [frzL_none_id H xs]
  | .clo f xs => by simp only [frz]; rw [frzL_none_id H xs]
  | .own d g lo len => by simp only [frz]; split <;> simp
  | .any => rfl
  | .int _ _ => rfl
  | .bool _ => rfl
  | .str _ => rfl
  | .nilp => rfl
  | .nils => rfl
  | .nilf => rfl
  | .ptr _ _ _ _ => rfl
  | .iptr _ => rfl
  | .sl _ _ => rfl
theorem frzL_none_id (H : Heap) : ∀ xs : List Tr, frzL H (fun _ => false) xs = xs
  | [] => rfl
  | x :: xs => by simp only [frzL]; rw [frz_none_id H x, frzL_none_id H xs]
end

theorem castTo_tvr' {c c' : Ty} {y : den c'} {x : den c} {t : Tr} (D : Nat → Bool) (h : castTo c ⟨c', y⟩ = some x) (ht : TVR c' y t) : TVR c x (frz H D t) := (castTo_tvr h ht).frz D

theorem TVL.lf {c : Ty} {xs : List (den c)} {ts : List Tr} (h : TVL c xs ts) : lfL ts = true := by
  rw [lfL_iff]
  intro t ht
  obtain ⟨i, hi, rfl⟩ := List.mem_iff_getElem.1 ht
  have := h.1
  exact (h.2 i (xs[i]'(by omega)) _ (by simp) (by simp)).lf

theorem row_frz {d e sz n : Nat} {ts : List Tr} {D : Nat → Bool} (hr : (H d).2 = .row e sz ts) (hl : ts.length = n) (hD : D d = true) (hlf : lfL ts = true) : frz H D (.own d (H d).1 0 n) = .sl sz ts := by
  have hd := row_at hr
  simp only [frz]
  rw [hd]
  simp only
  have e1 : (ts.drop 0).take n = ts := by rw [List.drop_zero, List.take_of_length_le (by omega)]
  rw [e1, if_pos ⟨hD, trivial, by omega, hlf⟩]

mutual
theorem castX_sound {Hl : List (Nat × (Nat × VObj))} {D : Nat → Bool} {H0 : Heap} : ∀ (v : V) (c : Ty) (x : den c) (t : Tr), castX Hl v c = some x → FlatR cur H v t → (∀ d ∈ labs v, (lkH Hl d).2 = .unk ∨ ((lkH Hl d).1 = cur d ∧ ObjF cur H0 (lkH Hl d).2 (H d).2 ∧ D d = true)) → TVR c x (frz H D t)
  | .nils, c, x, t, h, hf, hO => by
    cases hf
    cases c with
    | sl c => obtain rfl := Option.some.inj h; exact .nil c
    | _ => cases h
  | .node s vs, c, x, t, h, hf, hO => by
    cases hf with
    | @node _ _ ts hl hp =>
      unfold castX at h
      split at h
      · rename_i hh hc
        obtain ⟨k1, k2⟩ := castXL_sound vs (tys s) hh ts hc ⟨hl, hp⟩ hO
        refine castTo_tvr h ?_
        simp only [frz, frzL_eq]
        refine .st s _ _ (by simp only [parts, toH_ofH]; exact k1) fun i p t hp ht => ?_
        exact k2 i p t (by simpa only [parts, toH_ofH] using hp) ht
      · cases h
  | .ownA d g n, c, x, t, h, hf, hO => by
    unfold castX at h
    obtain ⟨hg, h⟩ := bif_some h
    have hg := Nat.eq_of_beq_eq_true hg
    rcases hO d (by simp [labs]) with hu | ⟨h1, h2, hD⟩
    · rw [hu] at h; cases h
    · cases hf with
      | ownA b1 b2 =>
        obtain ⟨hx, hlen⟩ := b2 (h1.symm.trans hg)
        subst hx
        cases ho : (lkH Hl d).2 with
        | rowT e c' xs =>
          rw [ho] at h h2
          obtain ⟨ts, hr, htl⟩ := h2
          rw [row_frz hr (hlen _ _ _ hr) hD htl.lf]
          exact castTo_tvr h (.sl xs ts htl.1 htl.2)
        | rowV e sz vs =>
          rw [ho] at h h2
          obtain ⟨ts, hr, htl⟩ := h2
          cases c with
          | sl c' =>
            dsimp only at h
            have hq := bif_some h
            have hz := Nat.eq_of_beq_eq_true hq.1
            subst hz
            have k := castEach_sound hq.2 htl
            rw [row_frz hr (hlen _ _ _ hr) hD k.lf]
            exact .sl x ts k.1 k.2
          | _ => cases h
        | _ => rw [ho] at h; cases h
  | .tv c' y, c, x, t, h, hf, _ => by cases hf with | tv ht => exact castTo_tvr' D h ht
  | .int k n, c, x, t, h, hf, _ => by cases hf; exact castTo_tvr' D h (.int k n)
  | .bool b, c, x, t, h, hf, _ => by cases hf; exact castTo_tvr' D h (.bool b)
  | .str s, c, x, t, h, hf, _ => by cases hf; exact castTo_tvr' D h (.str s)
  | .any, c, x, t, h, hf, _ => by cases h
  | .kn _, c, x, t, h, hf, _ => by cases h
  | .skip, c, x, t, h, hf, _ => by cases h
  | .nilp, c, x, t, h, hf, _ => by cases h
  | .nilf, c, x, t, h, hf, _ => by cases h
  | .tp _ _, c, x, t, h, hf, _ => by cases h
  | .vptr _ _ _ _, c, x, t, h, hf, _ => by cases h
  | .clo _ _, c, x, t, h, hf, _ => by cases h
  | .tup _, c, x, t, h, hf, _ => by cases h
theorem castXL_sound {Hl : List (Nat × (Nat × VObj))} {D : Nat → Bool} {H0 : Heap} : ∀ (vs : List V) (cs : List Ty) (h : HL cs) (ts : List Tr), castXL Hl vs cs = some h → FlatL cur H vs ts → (∀ d ∈ labsL vs, (lkH Hl d).2 = .unk ∨ ((lkH Hl d).1 = cur d ∧ ObjF cur H0 (lkH Hl d).2 (H d).2 ∧ D d = true)) →
    (ts.map (frz H D)).length = (hparts cs h).length ∧ ∀ (i : Nat) p t, (hparts cs h)[i]? = some p → (ts.map (frz H D))[i]? = some t → TVR p.1 p.2 t
  | [], cs, h, ts, hc, hf, hO => by
    cases cs with
    | nil =>
      have : ts = [] := by simpa using hf.1
      subst this
      exact ⟨rfl, fun i p t hp => by simp [hparts] at hp⟩
    | cons c cs => unfold castXL at hc; cases hc
  | v :: vs, cs, h, ts, hc, hf, hO => by
    cases cs with
    | nil => unfold castXL at hc; cases hc
    | cons c cs =>
      unfold castXL at hc
      dsimp only at hc
      split at hc
      · rename_i x h' hx hh
        obtain rfl := Option.some.inj hc
        cases ts with
        | nil => have := hf.1; simp at this
        | cons t ts =>
          obtain ⟨k1, k2⟩ := castXL_sound vs cs h' ts hh ⟨by simpa using hf.1, fun i v t hv ht => hf.2 (i + 1) v t (by simpa using hv) (by simpa using ht)⟩ (fun d hd => hO d (by simp only [labsL, List.mem_append]; exact .inr hd))
          have k0 := castX_sound v c x t hx (hf.2 0 v t rfl rfl) (fun d hd => hO d (by simp only [labsL, List.mem_append]; exact .inl hd))
          refine ⟨by simpa [hparts] using k1, fun i p u hi hu => ?_⟩
          cases i with
          | zero =>
            simp only [hparts, List.map_cons, List.getElem?_cons_zero, Option.some.injEq] at hi hu
            subst hi hu
            exact k0
          | succ i => exact k2 i p u (by simpa [hparts] using hi) (by simpa using hu)
      · cases hc
end

theorem TVR.nosl {c : Ty} {x : den c} {t : Tr} (h : TVR c x t) : ∀ n, noSl n c = true → t.nosl = true := by
  induction h with
  | int => intro n _; rfl
  | bool => intro n _; rfl
  | str => intro n _; rfl
  | nil => intro n hn; cases n <;> simp [noSl] at hn
  | sl => intro n hn; cases n <;> simp [noSl] at hn
  | @arr c m xs ts hl h ih =>
    intro n hn
    cases n with
    | zero => simp [noSl] at hn
    | succ n =>
      simp only [Tr.nosl, noslL_iff]
      intro t ht
      obtain ⟨i, hi, rfl⟩ := List.mem_iff_getElem.1 ht
      exact ih i (xs.toList[i]'(by simp; omega)) _ (by simp) (by simp) n hn
  | st s x ts hl h ih =>
    intro n hn
    cases n with
    | zero => simp [noSl] at hn
    | succ n =>
      simp only [noSl, List.all_eq_true] at hn
      simp only [Tr.nosl, noslL_iff]
      intro t ht
      obtain ⟨i, hi, rfl⟩ := List.mem_iff_getElem.1 ht
      refine ih i ((parts s x)[i]'(by omega)) _ (by simp) (by simp) n (hn _ ?_)
      rw [← parts_tys s x]
      exact List.mem_map_of_mem (List.getElem_mem _)
end

theorem hparts_mem {cs : List Ty} {h : HL cs} {p : TV} (hp : p ∈ hparts cs h) : p.1 ∈ cs := by
  have := List.mem_map_of_mem (f := (·.1)) hp
  rwa [hparts_tys] at this

theorem embs_tvr {cs : List Ty} (hd : dOKs cs = true) (h : HL cs) : (embs cs h).length = (hparts cs h).length ∧ ∀ (i : Nat) p t, (hparts cs h)[i]? = some p → (embs cs h)[i]? = some t → TVR p.1 p.2 t ∧ dOK 20 p.1 = true ∧ t = emb 20 p.1 p.2 := by
  refine ⟨by simp [embs], fun i p t hp ht => ?_⟩
  simp only [embs, List.getElem?_map, hp, Option.map_some, Option.some.injEq] at ht
  subst ht
  have hd' : dOK 20 p.1 = true := by
    simp only [dOKs, List.all_eq_true] at hd
    exact hd _ (hparts_mem (List.mem_of_getElem? hp))
  exact ⟨emb_tvr 20 _ _ hd', hd', rfl⟩

theorem embs_lf {cs : List Ty} (hd : dOKs cs = true) (h : HL cs) : lfL (embs cs h) = true := by
  rw [lfL_iff]
  intro t ht
  obtain ⟨i, hi, rfl⟩ := List.mem_iff_getElem.1 ht
  have hl := (embs_tvr hd h).1
  exact ((embs_tvr hd h).2 i ((hparts cs h)[i]'(by omega)) _ (by simp) (by simp)).1.lf

theorem retOf_lf {xs : List Tr} (h : lfL xs = true) : (retOf xs).lf = true := by
  unfold retOf
  split
  · simpa [lfL] using h
  · simpa [Tr.lf] using h
theorem retOf_nosl {xs : List Tr} (h : noslL xs = true) : (retOf xs).nosl = true := by
  unfold retOf
  split
  · simpa [noslL] using h
  · simpa [Tr.nosl] using h

def noSlR (cs : List Ty) : Bool := cs.all (noSl 19)
theorem embs_nosl {cs : List Ty} (hd : dOKs cs = true) (hn : noSlR cs = true) (h : HL cs) : noslL (embs cs h) = true := by
  rw [noslL_iff]
  intro t ht
  obtain ⟨i, hi, rfl⟩ := List.mem_iff_getElem.1 ht
  have hl := (embs_tvr hd h).1
  refine ((embs_tvr hd h).2 i ((hparts cs h)[i]'(by omega)) _ (by simp) (by simp)).1.nosl 19 ?_
  simp only [noSlR, List.all_eq_true] at hn
  exact hn _ (hparts_mem (List.getElem_mem _))

theorem ofR_flat {cur : Nat → Nat} {H : Heap} : ∀ (cs : List Ty) (hd : dOKs cs = true) (h : HL cs), FlatR cur H (ofR cs h) (embR cs h)
  | [c], hd, h => by
    have := (embs_tvr hd h).2 0 ⟨c, h.1⟩ _ rfl rfl
    exact .of this.1
  | [], hd, h => .tup rfl (fun i v t hv => by simp [hparts] at hv)
  | c :: c2 :: cs, hd, h => by
    show FlatR cur H (.tup _) (.tup _)
    refine .tup (by simp [embs, hparts]) fun i v t hv ht => ?_
    rw [List.getElem?_map] at hv
    obtain ⟨p, hp, rfl⟩ := Option.map_eq_some_iff.1 hv
    exact .of ((embs_tvr hd h).2 i p t hp ht).1

/-- A contract holds of trees that say more. -/
theorem CallSem.weakArgs {P : Program} {f : FuncId} {args args' : List Tr} {H : Heap} {R : Tr → Heap → Prop} (h : CallSem P f args' H R) (hl : args'.length = args.length) (hw : ∀ (i : Nat) a a', args[i]? = some a → args'[i]? = some a' → LW a a') : CallSem P f args H R := by
  refine ⟨h.1, fun M vs hH ok hs hv => h.2 M vs hH ok (hs.trans hl.symm) fun i x hx => ?_⟩
  obtain ⟨a, ha⟩ := get_of_len (ts := args) hl.symm hx
  exact hw i a x ha hx M _ (hv i a ha)

section
variable {P : Program} {f : FuncId} {con : Con} {cur : Nat → Nat} {H : Heap}

theorem ConOK.trees (hc : ConOK P f con) {x : HL con.ps} {y : HL con.r} (hm : con.m x = some y) {ts : List Tr} (hl : ts.length = (hparts con.ps x).length) (ht : ∀ (i : Nat) p t, (hparts con.ps x)[i]? = some p → ts[i]? = some t → TVR p.1 p.2 t) :
    ACall P f ts fun r _ => r = embR con.r y := by
  obtain ⟨h1, h2⟩ := embs_tvr hc.1 x
  refine (hc.2.2 x y hm).weakArgs (by rw [h1, hl]) fun i a a' ha ha' => ?_
  obtain ⟨p, hp⟩ := get_of_len (ts := hparts con.ps x) hl.symm ha
  obtain ⟨k1, k2, rfl⟩ := h2 i p a' hp ha'
  exact (ht i p a hp ha).lw k2

/-- A call whose arguments show no row of the caller's own. -/
theorem ConOK.pureCall (hc : ConOK P f con) {x : HL con.ps} {y : HL con.r} (hm : con.m x = some y) {vs : List V} {ts : List Tr} (hx : castXL [] vs con.ps = some x) (hf : FlatL cur H vs ts) (H' : Heap) : CallSem P f ts H' fun r H'' => r = embR con.r y ∧ H'' = H' := by
  obtain ⟨k1, k2⟩ := castXL_sound (D := fun _ => false) (H0 := H) vs con.ps x ts hx hf fun d _ => .inl rfl
  have hmap : ts.map (frz H fun _ => false) = ts := by
    conv => rhs; rw [← List.map_id ts]
    exact List.map_congr_left fun t _ => frz_none_id H t
  rw [hmap] at k1 k2
  have hl : lfL ts = true := by
    rw [lfL_iff]
    intro t ht
    obtain ⟨i, hi, rfl⟩ := List.mem_iff_getElem.1 ht
    exact (k2 i ((hparts con.ps x)[i]'(by omega)) _ (by simp) (by simp)).lf
  have hR : (embR con.r y).lf = true := retOf_lf (embs_lf hc.2.1 y)
  refine (CallSem.pure (fun _ => false) (R' := fun r => r = embR con.r y) (hc.trees hm k1 k2) (frz_none_args H' hl) hl fun r H1 hr => ?_).mono fun r H1 hr => ⟨hr.1, by rw [hr.2, kill_none]⟩
  subst hr
  rw [frz_lf _ _ _ hR]
  exact ⟨hR, rfl⟩
end
end Go.Proofs.Ytnonimnhninafaa.Ab
