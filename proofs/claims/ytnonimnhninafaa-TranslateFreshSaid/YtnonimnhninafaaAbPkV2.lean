/- Functions that are lent objects, on typed values. -/
import Derived.Test.YtnonimnhninafaaAbPkV1

namespace Go.Proofs.Ytnonimnhninafaa.Ab
open Go
set_option linter.unusedVariables false
set_option linter.unusedSimpArgs false

theorem CallSem.closedP {P : Program} {f : FuncId} {args os os' : List Tr} {R : Tr → Heap → Prop} {t : Tr} (h : CallSem P f args (heapP os) R) (hlf : t.lf = true) (hos' : lfL os' = true) (hlen : os'.length = os.length)
    (hR : ∀ r H', R r H' → (∀ (M : Mem) v, M.H = H' → MemOK M → VR M r v → VR (M.frozen fun _ => true) t v) ∧ ∀ (i : Nat) u, os'[i]? = some u → ∃ tt, H' (LB + i) = (0, .cells tt) ∧ Weak (frz H' (fun _ => true) tt) u) :
    CallSem P f args (heapP os) fun r H' => r = t ∧ H' = heapP os' := by
  refine ⟨h.1, fun M vs hH ok hs hv => ?_⟩
  refine (h.2 M vs hH ok hs hv).mono ?_
  rintro e w' ⟨v, r, M1, rfl, rfl, hr, ok1, fr1, hm1, hv1⟩
  obtain ⟨hv2, hobj⟩ := hR _ _ hr
  have hvt := hv2 M1 v rfl ok1 hv1
  let M1f : Mem := M1.frozen fun _ => true
  let M' : Mem := ⟨M1.w, M1f.Im, M.β, heapP os'⟩
  have hin : ∀ j, Live M' j → ∃ i u tt, j = LB + i ∧ os'[i]? = some u ∧ M1.H j = (0, .cells tt) ∧ Weak (frz M1.H (fun _ => true) tt) u ∧ M1.β j = M.β j := fun j hj => by
    obtain ⟨i, u, rfl, hu⟩ := heapP_live hj
    obtain ⟨tt, h1, h2⟩ := hobj i u hu
    refine ⟨i, u, tt, rfl, hu, h1, h2, (hm1.same (LB + i) ?_).1⟩
    rw [h1, hH, heapP_gen]
  have hl1 : ∀ j, Live M' j → Live M1 j := fun j hj => by
    obtain ⟨i, u, tt, _, _, h1, _, _⟩ := hin j hj
    unfold Live; rw [h1]; simp
  have lift : ∀ {l : Tr} {v : Value}, VR M1f l v → l.lf = true → VR M' l v := fun h hl => VR.lf_move (M := M1f) (M1 := M') rfl (fun _ h => h) h hl
  refine ⟨v, t, M', rfl, rfl, ⟨rfl, rfl⟩, ⟨fun j => ?_, fun j j' b K K' hne l1 l2 e1 e2 => ?_, fun j b K l1 e1 hI => ?_, frozen_lt ok1 _⟩,
    ⟨fr1.os, fr1.tape, fr1.output, fr1.size, fr1.blk, fun j b K l1 e1 => ?_, fun b hb => .inl (fr1.im0 b hb), fun b hb => ?_⟩,
    ⟨fun b hb => .inl (hm1.im b hb), fun b hb => hm1.blk b hb, fun d => by rw [hH, heapP_gen]; exact Nat.zero_le _, fun d _ => ⟨rfl, ?_⟩⟩, lift hvt hlf⟩
  · by_cases hj : Live M' j
    · obtain ⟨i, u, tt, rfl, hu, h1, ⟨w1, w2, w3⟩, hb⟩ := hin j hj
      have ho := ok1.objs (LB + i)
      unfold ObjR at ho ⊢
      rw [h1] at ho
      obtain ⟨hw, b, K, c, ee, hbb, hc, hcs, hvl⟩ := ho
      rw [show M'.H (LB + i) = (0, .cells u) from heapP_at hu]
      dsimp only
      refine ⟨w2 (frz_wf ok1 _ tt hw), b, K, c, ee, hb.symm.trans hbb, hc, by rw [w3, frz_size]; exact hcs, fun k l hk => ?_⟩
      obtain ⟨l0, hl0⟩ := get_of_len (ts := (frz M1.H (fun _ => true) tt).leaves) w1.1.symm hk
      have hl0' := hl0
      rw [frz_leaves, List.getElem?_map] at hl0'
      obtain ⟨l1, hl1', rfl⟩ := Option.map_eq_some_iff.1 hl0'
      have hul := (lfL_iff _).1 hos' u (List.mem_of_getElem? hu)
      exact lift (w1.2 k _ l hl0 hk M1f _ ((hvl k l1 hl1').frz ok1 _)) (lf_leaves u hul l (List.mem_of_getElem? hk))
    · unfold Live at hj
      simp only [ne_eq, Classical.not_not] at hj
      unfold ObjR
      rw [hj]
      trivial
  · obtain ⟨_, _, _, _, _, _, _, b1⟩ := hin j l1
    obtain ⟨_, _, _, _, _, _, _, b2⟩ := hin j' l2
    exact ok1.inj j j' b K K' hne (hl1 j l1) (hl1 j' l2) (b1.trans e1) (b2.trans e2)
  · obtain ⟨_, _, _, _, _, h1, _, b1⟩ := hin j l1
    rcases hI with hI | ⟨d, K', ee, sz, xs, _, hr', hb'⟩
    · exact ok1.sep j b K (hl1 j l1) (b1.trans e1) hI
    · refine ok1.inj j d b K K' (fun e => ?_) (hl1 j l1) (by unfold Live; rw [hr']; simp) (b1.trans e1) hb'
      subst e
      rw [h1] at hr'
      cases hr'
  · obtain ⟨_, _, _, _, _, _, _, b1⟩ := hin j l1
    exact fr1.own j b K (hl1 j l1) (b1.trans e1)
  · rcases hb with hb | ⟨d, K, ee, sz, xs, _, hr', hb⟩
    · exact fr1.im1 b hb
    · exact .inr (fr1.own d b K (by unfold Live; rw [hr']; simp) hb)
  · intro ee sz xs' hx
    have : (heapP os' d).2 = .row ee sz xs' := hx
    obtain ⟨i, u, rfl, hu⟩ := heapP_live (os := os') (d := d) (by rw [this]; simp)
    rw [heapP_at hu] at this
    cases this

def leafV : (ls : List LP) → HL (tysP ls) → List V
  | [], _ => []
  | .inl c :: ls, h => V.of c h.1 :: leafV ls h.2
  | .inr i :: ls, h => .vptr (LB + i) 0 [] 0 :: leafV ls h
def enumT : Nat → List V → List (Nat × V)
  | _, [] => []
  | n, v :: vs => (n, v) :: enumT (n + 1) vs
def objsV : Nat → (cs : List Ty) → HL cs → List (Nat × (Nat × VObj))
  | _, [], _ => []
  | i, c :: cs, h => (LB + i, 0, .cells (V.of c h.1)) :: objsV (i + 1) cs h.2
def finO (s : VSt) : Nat → (cs : List Ty) → Option (HL cs)
  | _, [] => some ()
  | i, c :: cs => match (lkH s.H (LB + i)).2 with
    | .cells v => match castX s.H v c, finO s (i + 1) cs with
      | some x, some h => some (x, h)
      | _, _ => none
    | _ => none
def finP (Θ : Tab) (rs : List ResultVar) (rc objs : List Ty) (e : Exit) (s : VSt) : Option (HL rc × HL objs) :=
  match e with
  | .normal => match resLV Θ s rs with
    | some vs => match castXL s.H vs rc, finO s 0 objs with
      | some y, some o => some (y, o)
      | _, _ => none
    | none => none
  | .ret => match resLV Θ s rs with
    | some vs => match castXL s.H vs rc, finO s 0 objs with
      | some y, some o => some (y, o)
      | _, _ => none
    | none => none
  | _ => none

/-- What a body computes that is lent objects. -/
def evP (Θ : Tab) (tyOf : TypeId → Option Ty) (C : FuncId → Option CE) (nt : Nat) (ℓ : Nat → Nat) (J : Nat → Option Tmp) (G : Nat → Option Seg) (N : Nat) (c : Code) (rs : List ResultVar) (args : List PA) (objs rc : List Ty)
    (x : HL (tysP (leavesP args))) (o : HL objs) : Option (HL rc × HL objs) :=
  evC Θ tyOf C nt ℓ J G N c ⟨enumT 0 (pack V.clo args (leafV (leavesP args) x)), objsV 0 objs o⟩ (finP Θ rs rc objs)

section
variable {P : Program} {Θ : Tab} {tyOf : TypeId → Option Ty} {s : VSt} {s' : St}

theorem objsV_lk : ∀ (cs : List Ty) (o : HL cs) (n j : Nat), lkH (objsV n cs o) j = (0, .unk) ∨ ∃ (i : Nat) (p : TV), j = LB + (n + i) ∧ (hparts cs o)[i]? = some p ∧ lkH (objsV n cs o) j = (0, .cells (V.of p.1 p.2))
  | [], o, n, j => .inl rfl
  | c :: cs, o, n, j => by
    simp only [objsV, lkH_cons]
    split
    · rename_i e; subst e; exact .inr ⟨0, ⟨c, o.1⟩, rfl, rfl, rfl⟩
    · rcases objsV_lk cs o.2 (n + 1) j with h | ⟨i, p, h1, h2, h3⟩
      · exact .inl h
      · exact .inr ⟨i + 1, p, by rw [h1]; omega, by simpa [hparts] using h2, h3⟩

theorem enumT_rel {cur : Nat → Nat} {H : Heap} : ∀ (n : Nat) (vs : List V) (ts : List Tr), FlatL cur H vs ts → ∀ j, FlatR cur H (lkT (enumT n vs) j) (if n ≤ j then ts.getD (j - n) .any else .any)
  | n, [], ts, h, j => .any _
  | n, v :: vs, ts, h, j => by
    cases ts with
    | nil => have := h.1; simp at this
    | cons t ts =>
      simp only [enumT, lkT_cons]
      have ih := enumT_rel (n + 1) vs ts ⟨by simpa using h.1, fun i v t hv ht => h.2 (i + 1) v t (by simpa using hv) (by simpa using ht)⟩ j
      by_cases hj : j = n
      · subst hj
        rw [if_pos rfl, if_pos (Nat.le_refl _), Nat.sub_self]
        exact h.2 0 v t rfl rfl
      · rw [if_neg hj]
        by_cases hlt : n ≤ j
        · rw [if_pos (by omega)] at ih
          rw [if_pos hlt]
          have e : j - n = (j - (n + 1)) + 1 := by omega
          rw [e, List.getD_cons_succ]
          exact ih
        · rw [if_neg (by omega)] at ih
          rw [if_neg hlt]
          exact ih

theorem leafV_flat {H : Heap} {cur : Nat → Nat} (hcur : ∀ d, cur d = 0) (hH : ∀ i, (H (LB + i)).1 = 0) : ∀ (ls : List LP) (x : HL (tysP ls)), dOKs (tysP ls) = true → FlatL cur H (leafV ls x) (embL ls x)
  | [], x, _ => ⟨rfl, fun i v t hv => by simp [leafV] at hv⟩
  | .inl c :: ls, x, hd => by
    have hd2 : dOK 20 c = true ∧ dOKs (tysP ls) = true := by simpa [dOKs, tysP] using hd
    have ih := leafV_flat hcur hH ls x.2 hd2.2
    refine ⟨by simp [leafV, embL, ih.1], fun i v t hv ht => ?_⟩
    cases i with
    | zero => simp [leafV, embL] at hv ht; subst hv ht; exact .of (emb_tvr 20 c x.1 hd2.1)
    | succ i => exact ih.2 i v t (by simpa [leafV] using hv) (by simpa [embL] using ht)
  | .inr k :: ls, x, hd => by
    have ih := leafV_flat hcur hH ls x hd
    refine ⟨by simp [leafV, embL, ih.1], fun i v t hv ht => ?_⟩
    cases i with
    | zero =>
      simp [leafV, embL] at hv ht; subst hv ht
      exact .vptr (by omega) fun _ => by rw [hH]
    | succ i => exact ih.2 i v t (by simpa [leafV] using hv) (by simpa [embL] using ht)

theorem pack_flat {cur : Nat → Nat} {H : Heap} : ∀ (as : List PA) (vs : List V) (ts : List Tr), FlatL cur H vs ts → FlatL cur H (pack V.clo as vs) (pack Tr.clo as ts)
  | [], vs, ts, h => ⟨rfl, fun i v t hv => by simp [pack] at hv⟩
  | .lf l :: as, [], ts, h => by
    have : ts = [] := by simpa using h.1
    subst this
    exact ⟨rfl, fun i v t hv => by simp [pack] at hv⟩
  | .lf l :: as, v :: vs, ts, h => by
    cases ts with
    | nil => have := h.1; simp at this
    | cons t ts =>
      have ih := pack_flat as vs ts ⟨by simpa using h.1, fun i v t hv ht => h.2 (i + 1) v t (by simpa using hv) (by simpa using ht)⟩
      refine ⟨by simp [pack, ih.1], fun i u w hu hw => ?_⟩
      cases i with
      | zero => simp [pack] at hu hw; subst hu hw; exact h.2 0 v t rfl rfl
      | succ i => exact ih.2 i u w (by simpa [pack] using hu) (by simpa [pack] using hw)
  | .clo f ls :: as, vs, ts, h => by
    have ih := pack_flat as (vs.drop ls.length) (ts.drop ls.length) ⟨by simp [h.1], fun i v t hv ht => by
      rw [List.getElem?_drop] at hv ht
      exact h.2 _ v t hv ht⟩
    refine ⟨by simp [pack, ih.1], fun i u w hu hw => ?_⟩
    cases i with
    | zero =>
      simp only [pack, List.getElem?_cons_zero, Option.some.injEq] at hu hw
      subst hu hw
      refine .clo (by simp [h.1]) fun k v t hv ht => ?_
      rw [List.getElem?_take] at hv ht
      split at hv
      · rename_i hk; rw [if_pos hk] at ht; exact h.2 k v t hv ht
      · cases hv
    | succ i => exact ih.2 i u w (by simpa [pack] using hu) (by simpa [pack] using hw)

theorem pack_len : ∀ (as : List PA) (ts : List Tr), ts.length = (leavesP as).length → (pack Tr.clo as ts).length = as.length
  | [], ts, _ => rfl
  | .lf l :: as, [], h => by simp [leavesP, PA.leaves] at h
  | .lf l :: as, t :: ts, h => by simp [pack, pack_len as ts (by simp only [leavesP, PA.leaves, List.length_append, List.length_cons, List.length_nil] at h; omega)]
  | .clo f ls :: as, ts, h => by
    simp only [leavesP, PA.leaves, List.length_append] at h
    simp [pack, pack_len as (ts.drop ls.length) (by rw [List.length_drop]; omega)]

theorem finO_ok (r : Rel s s') : ∀ (cs : List Ty) (n : Nat) (o : HL cs), dOKs cs = true → finO s n cs = some o → ∀ (i : Nat) u, (embs cs o)[i]? = some u → ∃ tt, (s'.H (LB + (n + i))).2 = .cells tt ∧ Weak (frz s'.H (fun _ => true) tt) u
  | [], n, o, _, h => fun i u hu => by simp [embs, hparts] at hu
  | c :: cs, n, o, hd, h => by
    unfold finO at h
    split at h
    · rename_i v hv
      split at h
      · rename_i x o' hx ho
        obtain rfl := Option.some.inj h
        have hd2 : dOK 20 c = true ∧ dOKs cs = true := by simpa [dOKs] using hd
        have ih := finO_ok r cs (n + 1) o' hd2.2 ho
        intro i u hu
        cases i with
        | zero =>
          simp only [embs, hparts, List.map_cons, List.getElem?_cons_zero, Option.some.injEq] at hu
          subst hu
          have hO := r.O (LB + n)
          rw [hv] at hO
          obtain ⟨t, ht, hf⟩ := hO
          have htv := castX_sound (D := fun _ => true) (H0 := s'.H) v c x t hx hf fun d _ => .inr ⟨rfl, r.O d, rfl⟩
          obtain ⟨w1, w2⟩ := htv.weak 20 hd2.1
          exact ⟨t, ht, w1, w2, by rw [(emb_tvr 20 c x hd2.1).shape.1, htv.shape.1]⟩
        | succ i =>
          have := ih i u (by simpa [embs, hparts] using hu)
          rw [show n + (i + 1) = n + 1 + i by omega]
          exact this
      · cases h
    · cases h

theorem evP_ok (hΘ : TabOK P Θ) (hm : P.follows .mixedOrders = true) (hty : TypOK Θ tyOf) {C : FuncId → Option CE} (hC : ConsOK P C) {ℓ : Nat → Nat} {J : Nat → Option Tmp} {G : Nat → Option Seg} {N nt : Nat} {f : FuncId} {fn : Func} {c : Code} {rs : List ResultVar} {p : PCon}
    (hG : SegsOK P nt G c) (hok : p.ok = true) (hf : P.funcs[f]? = some fn) (hb : fn.body = some c) (hn : fn.ntmps = nt) (hrs : fn.results.toList = rs) (hent : Enters P f) (hl : p.args.length ≤ nt)
    (h : ∀ x o, evP Θ tyOf C nt ℓ J G N c rs p.args p.objs p.r x o = p.m x o) : PConOK P f p := by
  refine ⟨hok, fun x o y o' hxy => ?_⟩
  simp only [PCon.ok, Bool.and_eq_true] at hok
  obtain ⟨d1, d2, d3, d4⟩ := hok
  have he : ∀ z : HL p.objs, (embs p.objs z).length = p.objs.length := fun z => by simp [embs]; rw [← List.length_map (f := (·.1)), hparts_tys]
  have hlen : (pack Tr.clo p.args (embL (leavesP p.args) x)).length ≤ nt := by rw [pack_len _ _ (embL_len _ _)]; exact hl
  have hrel : Rel ⟨enumT 0 (pack V.clo p.args (leafV (leavesP p.args) x)), objsV 0 p.objs o⟩ ⟨argT (pack Tr.clo p.args (embL (leavesP p.args) x)), heapP (embs p.objs o)⟩ := by
    have hcur : ∀ d, VSt.cur ⟨enumT 0 (pack V.clo p.args (leafV (leavesP p.args) x)), objsV 0 p.objs o⟩ d = 0 := fun d => by
      show (lkH (objsV 0 p.objs o) d).1 = 0
      rcases objsV_lk p.objs o 0 d with h | ⟨_, _, _, _, h⟩ <;> rw [h]
    refine ⟨fun t => ?_, fun d => ?_, fun d _ => ⟨heapP_gen _ _, fun e sz ts h => ?_⟩⟩
    rotate_right
    · obtain ⟨i, t, rfl, ht⟩ := heapP_live (os := embs p.objs o) (d := d) (by rw [h]; simp)
      change (heapP (embs p.objs o) (LB + i)).2 = _ at h
      rw [heapP_at ht] at h
      cases h
    · have := enumT_rel 0 _ _ (pack_flat p.args _ _ (leafV_flat (cur := VSt.cur ⟨enumT 0 (pack V.clo p.args (leafV (leavesP p.args) x)), objsV 0 p.objs o⟩) (H := heapP (embs p.objs o)) hcur (fun i => heapP_gen _ _) (leavesP p.args) x d1)) t
      simpa [argT] using this
    · show ObjF _ _ (lkH (objsV 0 p.objs o) d).2 (heapP (embs p.objs o) d).2
      rcases objsV_lk p.objs o 0 d with h | ⟨i, q, h1, h2, h⟩
      · rw [h]; trivial
      · rw [h, h1, Nat.zero_add]
        obtain ⟨t, ht⟩ := get_of_len (xs := hparts p.objs o) (ts := embs p.objs o) (by simp [embs]) h2
        rw [heapP_at ht]
        exact ⟨t, rfl, .of ((embs_tvr d2 o).2 i q t h2 ht).1⟩
  refine CallSem.closedP (os' := embs p.objs o') (R := fun r H' => (∃ ts : List Tr, r = retOf ts ∧ (ts.map (frz H' fun _ => true)).length = (hparts p.r y).length ∧ ∀ (i : Nat) q t, (hparts p.r y)[i]? = some q → (ts.map (frz H' fun _ => true))[i]? = some t → TVR q.1 q.2 t) ∧
      ∀ (i : Nat) u, (embs p.objs o')[i]? = some u → ∃ tt, (H' (LB + i)).2 = .cells tt ∧ (H' (LB + i)).1 = 0 ∧ Weak (frz H' (fun _ => true) tt) u)
    (walk hΘ hm hf hb hn hrs hent hlen ℓ ?_) (retOf_lf (embs_lf d3 y)) (embs_lf d2 o') (by rw [he, he]) ?_
  · refine evC_sound (J := J) (N := N) hΘ hm hty hC c _ _ (finP Θ rs p.r p.objs) (y, o') hG hrel ((h x o).trans hxy) fun e s2 s2' r2 h2 => ?_
    have key : ∀ vs, resLV Θ s2 rs = some vs → castXL s2.H vs p.r = some y → finO s2 0 p.objs = some o' → ∃ xs, resL Θ s2' rs = some xs ∧ (∃ ts : List Tr, retOf xs = retOf ts ∧ (ts.map (frz s2'.H fun _ => true)).length = (hparts p.r y).length ∧ ∀ (i : Nat) q t, (hparts p.r y)[i]? = some q → (ts.map (frz s2'.H fun _ => true))[i]? = some t → TVR q.1 q.2 t) ∧
        ∀ (i : Nat) u, (embs p.objs o')[i]? = some u → ∃ tt, (s2'.H (LB + i)).2 = .cells tt ∧ (s2'.H (LB + i)).1 = 0 ∧ Weak (frz s2'.H (fun _ => true) tt) u := by
      intro vs h1 h2 h3
      obtain ⟨ts, h4, h5⟩ := resLV_sound r2 h1
      obtain ⟨k1, k2⟩ := castXL_sound (D := fun _ => true) (H0 := s2'.H) vs p.r y ts h2 h5 fun d _ => .inr ⟨rfl, r2.O d, rfl⟩
      refine ⟨ts, h4, ⟨ts, rfl, k1, k2⟩, fun i u hu => ?_⟩
      obtain ⟨tt, k3, k4⟩ := finO_ok r2 p.objs 0 o' d2 h3 i u hu
      rw [Nat.zero_add] at k3
      exact ⟨tt, k3, (r2.G _ (Nat.le_add_right _ _)).1, k4⟩
    show retK Θ rs _ e s2'
    unfold finP at h2
    cases e with
    | normal =>
      dsimp only at h2
      split at h2
      · rename_i vs hvs
        split at h2
        · rename_i y2 o2 hy ho
          simp only [Option.some.injEq, Prod.mk.injEq] at h2
          obtain ⟨rfl, rfl⟩ := h2
          exact key vs hvs hy ho
        · cases h2
      · cases h2
    | ret =>
      dsimp only at h2
      split at h2
      · rename_i vs hvs
        split at h2
        · rename_i y2 o2 hy ho
          simp only [Option.some.injEq, Prod.mk.injEq] at h2
          obtain ⟨rfl, rfl⟩ := h2
          exact key vs hvs hy ho
        · cases h2
      · cases h2
    | _ => cases h2
  · rintro r H' ⟨⟨ts, rfl, k1, k2⟩, k3⟩
    refine ⟨fun M v hMH ok hv => ?_, fun i u hu => ?_⟩
    · subst hMH
      have hv' := hv.frz ok (fun _ => true)
      rw [frz_ret] at hv'
      exact embR_of d3 k1 k2 hv'
    · obtain ⟨tt, h1, h2, h3⟩ := k3 i u hu
      exact ⟨tt, Prod.ext h2 h1, h3⟩
end
end Go.Proofs.Ytnonimnhninafaa.Ab

/- Rows that are given up: what they showed never changes any more. -/
namespace Go.Proofs.Ytnonimnhninafaa.Ab
open Go
set_option linter.unusedVariables false
set_option linter.unusedSimpArgs false

def frzO (H : Heap) (D : Nat → Bool) (o : AObj) : AObj :=
  match o with
  | .dead => .dead
  | .cells t => .cells (frz H D t)
  | .row e sz xs => .row e sz (xs.map (frz H D))

def frzH (H : Heap) (D : Nat → Bool) : Heap := fun d =>
  match (H d).2 with
  | .row e sz xs => if D d = true then ((H d).1 + 1, .dead) else ((H d).1, frzO H D (.row e sz xs))
  | o => ((H d).1, frzO H D o)

def frzSt (s : St) (D : Nat → Bool) : St := ⟨fun t => frz s.H D (s.T t), frzH s.H D⟩

def Mem.frz2 (M : Mem) (D : Nat → Bool) : Mem := ⟨M.w, (M.frozen D).Im, M.β, frzH M.H D⟩

theorem frzH_gen (H : Heap) (D : Nat → Bool) (d : Nat) : (H d).1 ≤ (frzH H D d).1 := by
  unfold frzH
  split
  · split
    · exact Nat.le_succ _
    · exact Nat.le_refl _
  · exact Nat.le_refl _

theorem frzH_obj (H : Heap) (D : Nat → Bool) (d : Nat) (h : (frzH H D d).2 ≠ .dead) : (H d).2 ≠ .dead ∧ (frzH H D d) = ((H d).1, frzO H D (H d).2) ∧ ∀ e sz xs, (H d).2 = .row e sz xs → D d = false := by
  unfold frzH at h ⊢
  split at h
  · rename_i e sz xs hr
    rw [hr]
    split at h
    · exact absurd rfl h
    · rename_i hd
      exact ⟨by simp, by simp only [if_neg hd], fun _ _ _ _ => by simpa using hd⟩
  · rename_i o hno
    refine ⟨fun e => ?_, ?_, fun e sz xs hr => absurd hr (hno e sz xs)⟩
    · rw [e] at h; exact h rfl
    · rfl

theorem frzH_same (H : Heap) (D : Nat → Bool) (d : Nat) (h : (frzH H D d).1 = (H d).1) : (frzH H D d) = ((H d).1, frzO H D (H d).2) := by
  unfold frzH at h ⊢
  split at h
  · rename_i e sz xs hr
    rw [hr]
    split at h
    · simp at h
    · rename_i hd; simp only [if_neg hd]
  · rfl

theorem frz2_mono {M : Mem} (D : Nat → Bool) : Mono (M.frozen D) (M.frz2 D) := by
  refine ⟨fun _ h => h, fun _ _ => rfl, fun d => frzH_gen M.H D d, fun d h => ⟨rfl, fun e sz xs hx => ?_⟩⟩
  have e1 := frzH_same M.H D d h
  have hx' : (frzH M.H D d).2 = .row e sz xs := hx
  rw [e1] at hx'
  cases ho : (M.H d).2 with
  | dead => rw [ho] at hx'; cases hx'
  | cells t => rw [ho] at hx'; cases hx'
  | row e' sz' ys =>
    rw [ho] at hx'
    simp only [frzO, AObj.row.injEq] at hx'
    obtain ⟨rfl, rfl, _⟩ := hx'
    exact ⟨ys, ho⟩

theorem VR.frz2 {M : Mem} (ok : MemOK M) (D : Nat → Bool) {t : Tr} {v : Value} (h : VR M t v) : VR (M.frz2 D) (Ab.frz M.H D t) v := (h.frz ok D).mono (frz2_mono D)

theorem frz2_ok {M : Mem} (ok : MemOK M) (D : Nat → Bool) : MemOK (M.frz2 D) := by
  have hlive : ∀ d, Live (M.frz2 D) d → Live M d := fun d h => (frzH_obj M.H D d h).1
  refine ⟨fun d => ?_, fun d d' b K K' hne h1 h2 e1 e2 => ok.inj d d' b K K' hne (hlive d h1) (hlive d' h2) e1 e2, fun d b K hl hb hI => ?_, frozen_lt ok D⟩
  · by_cases hl : Live (M.frz2 D) d
    · obtain ⟨h1, h2, h3⟩ := frzH_obj M.H D d hl
      have ho := ok.objs d
      unfold ObjR at ho ⊢
      have e : ((M.frz2 D).H d).2 = frzO M.H D (M.H d).2 := by show (frzH M.H D d).2 = _; rw [h2]
      rw [e]
      cases hd : (M.H d).2 with
      | dead => trivial
      | cells t =>
        rw [hd] at ho
        obtain ⟨hw, b, K, c, e', hb, hc, hs, hv⟩ := ho
        refine ⟨frz_wf ok D t hw, b, K, c, e', hb, hc, by rw [frz_size]; exact hs, fun i l hi => ?_⟩
        rw [frz_leaves, List.getElem?_map] at hi
        obtain ⟨l0, hl0, rfl⟩ := Option.map_eq_some_iff.1 hi
        exact (hv i l0 hl0).frz2 ok D
      | row e' sz xs =>
        rw [hd] at ho
        obtain ⟨h0, hw, h4⟩ := ho
        refine ⟨h0, fun x hx => ?_, ?_⟩
        · obtain ⟨y, hy, rfl⟩ := List.mem_map.1 hx
          exact ⟨frz_wf ok D y (hw y hy).1, by rw [frz_size]; exact (hw y hy).2⟩
        · show match M.β d with | none => _ | some (b, K) => _
          cases hb : M.β d with
          | none => rw [hb] at h4; rw [h4]; rfl
          | some bK =>
            obtain ⟨b, K⟩ := bK
            rw [hb] at h4
            obtain ⟨c, hc, hs, hle, hK, hv⟩ := h4
            refine ⟨c, hc, hs, by simpa using hle, hK, fun i l hi => ?_⟩
            rw [← frzL_eq, frzL_leaves, List.getElem?_map] at hi
            obtain ⟨l0, hl0, rfl⟩ := Option.map_eq_some_iff.1 hi
            exact (hv i l0 hl0).frz2 ok D
    · unfold Live at hl
      simp only [ne_eq, Classical.not_not] at hl
      unfold ObjR
      rw [hl]
      trivial
  · rcases hI with hI | ⟨d', K', e, sz, xs, hD, hr, hb'⟩
    · exact ok.sep d b K (hlive d hl) hb hI
    · by_cases hdd : d = d'
      · subst hdd
        obtain ⟨_, _, h3⟩ := frzH_obj M.H D d hl
        rw [h3 e sz xs hr] at hD
        cases hD
      · exact ok.inj d d' b K K' hdd (hlive d hl) (by unfold Live; rw [hr]; simp) hb hb'

theorem Gam.freeze {M0 : Mem} {nt : Nat} {s : St} {M : Mem} {a : Act} (g : Gam M0 nt s M a) (D : Nat → Bool) : Gam M0 nt (frzSt s D) (M.frz2 D) a := by
  have hH := g.hH
  refine ⟨by show frzH M.H D = frzH s.H D; rw [hH], frz2_ok g.ok D, ?_, ?_, fun t => ?_, g.sz, g.df⟩
  · refine ⟨g.fr.os, g.fr.tape, g.fr.output, g.fr.size, g.fr.blk, fun d b K hl hb => g.fr.own d b K (frzH_obj M.H D d hl).1 hb, fun b hb => .inl (g.fr.im0 b hb), fun b hb => ?_⟩
    rcases hb with hb | ⟨d, K, e, sz, xs, _, hr, hb⟩
    · exact g.fr.im1 b hb
    · exact .inr (g.fr.own d b K (by unfold Live; rw [hr]; simp) hb)
  · refine g.mono.trans ⟨fun _ h => .inl h, fun _ _ => rfl, fun d => frzH_gen M.H D d, fun d h => ?_⟩
    exact (frz2_mono (M := M) D).same d h
  · show VR _ (Ab.frz s.H D (s.T t)) _
    rw [← hH]
    exact (g.tm t).frz2 g.ok D
end Go.Proofs.Ytnonimnhninafaa.Ab

/- Nothing as an empty row of the call's own. -/
namespace Go.Proofs.Ytnonimnhninafaa.Ab
open Go

/-- A label is given to an empty row. -/
def Mem.empty (M : Mem) (d e sz : Nat) : Mem := ⟨M.w, M.Im, upd M.β d none, upd M.H d ((M.H d).1 + 1, .row e sz [])⟩

theorem Mem.empty_mono (M : Mem) (d e sz : Nat) : Mono M (M.empty d e sz) := by
  refine ⟨fun _ h => h, fun _ _ => rfl, fun d' => ?_, fun d' h => ?_⟩
  · simp only [Mem.empty, upd]; split
    · rename_i hh; subst hh; simp
    · exact Nat.le_refl _
  · simp only [Mem.empty, upd] at h ⊢
    by_cases hd : d' = d
    · subst hd; simp at h
    · simp only [hd, if_false]; exact ⟨trivial, fun _ _ xs hx => ⟨xs, hx⟩⟩

theorem Mem.empty_live {M : Mem} {d e sz d' : Nat} (hne : d' ≠ d) (hl : Live (M.empty d e sz) d') : Live M d' := by simpa [Mem.empty, Live, upd, hne] using hl

theorem Mem.empty_ok {M : Mem} (ok : MemOK M) (d e sz : Nat) (hsz : 0 < sz) : MemOK (M.empty d e sz) := by
  have hne : ∀ d' b K, (M.empty d e sz).β d' = some (b, K) → d' ≠ d ∧ M.β d' = some (b, K) := fun d' b K h => by
    simp only [Mem.empty, upd] at h
    by_cases hd : d' = d
    · simp [hd] at h
    · simp only [hd, if_false] at h; exact ⟨hd, h⟩
  refine ⟨fun d' => ?_, fun d1 d2 b K K' hn l1 l2 e1 e2 => ?_, fun d' b K l1 e1 => ?_, ok.lt⟩
  · by_cases hd : d' = d
    · subst hd
      unfold ObjR
      simp only [Mem.empty, upd_same]
      exact ⟨hsz, (fun x hx => absurd hx List.not_mem_nil), trivial⟩
    · exact (ok.objs d').mono (M.empty_mono d e sz) (by simp [Mem.empty, upd, hd]) (fun _ _ _ _ => rfl)
  · obtain ⟨n1, b1⟩ := hne _ _ _ e1
    obtain ⟨n2, b2⟩ := hne _ _ _ e2
    exact ok.inj d1 d2 b K K' hn (Mem.empty_live n1 l1) (Mem.empty_live n2 l2) b1 b2
  · obtain ⟨n1, b1⟩ := hne _ _ _ e1
    exact ok.sep d' b K (Mem.empty_live n1 l1) b1

theorem Fr.empty {Φ : Base} {M : Mem} (h : Fr Φ M) (d e sz : Nat) : Fr Φ (M.empty d e sz) := by
  refine ⟨h.os, h.tape, h.output, h.size, h.blk, fun d' b K hl hb => ?_, h.im0, h.im1⟩
  simp only [Mem.empty, upd] at hb
  by_cases hd : d' = d
  · simp [hd] at hb
  · simp only [hd, if_false] at hb
    exact h.own d' b K (Mem.empty_live hd hl) hb

theorem empty_vr (M : Mem) (d e sz : Nat) : VR (M.empty d e sz) (.own d ((M.H d).1 + 1) 0 0) (.slice none 0 0) := by
  refine .own rfl (by simp [Mem.empty]) fun e' sz' xs _ => ?_
  simp only [Mem.empty, upd_same]
  exact ⟨rfl, rfl, rfl⟩

theorem nils_val {M : Mem} {v : Value} (h : VR M .nils v) : v = .slice none 0 0 := by
  cases h with
  | nils => rfl
  | agg ha => simp [Tr.isAgg] at ha

/-- A slot that holds nothing holds an empty row. -/
theorem Gam.adopt {M0 : Mem} {nt : Nat} {s : St} {M : Mem} {a : Act} (g : Gam M0 nt s M a) (t d e sz : Nat) (hsz : 0 < sz) (h : s.T t = .nils) :
    Gam M0 nt ⟨upd s.T t (.own d ((s.H d).1 + 1) 0 0), upd s.H d ((s.H d).1 + 1, .row e sz [])⟩ (M.empty d e sz) a := by
  have hH := g.hH
  have hm := M.empty_mono d e sz
  refine ⟨by show upd M.H d _ = _; rw [hH], Mem.empty_ok g.ok d e sz hsz, g.fr.empty d e sz, g.mono.trans hm, fun t' => ?_, g.sz, g.df⟩
  have hv := g.tm t'
  simp only [upd_apply]
  split
  · rename_i e1; subst e1
    rw [h] at hv
    rw [nils_val hv, ← hH]
    exact empty_vr M d e sz
  · exact hv.mono hm

/-- A part of an object that holds nothing holds an empty row. -/
theorem Gam.adoptO {M0 : Mem} {nt : Nat} {s : St} {M : Mem} {a : Act} (g : Gam M0 nt s M a) (o d e sz i ss : Nat) (offs : List Nat) (ts : List Tr) (hsz : 0 < sz) (hne : o ≠ d) (ho : (s.H o).2 = .cells (.node ss offs ts)) (h : ts[i]? = some .nils) :
    ∃ M', M'.w = M.w ∧ Gam M0 nt ⟨s.T, upd (upd s.H d ((s.H d).1 + 1, .row e sz [])) o ((s.H o).1, .cells (.node ss offs (ts.set i (.own d ((s.H d).1 + 1) 0 0))))⟩ M' a := by
  have hH := g.hH
  have hm := M.empty_mono d e sz
  have ok1 := Mem.empty_ok g.ok d e sz hsz
  have fr1 := g.fr.empty d e sz
  have ho1 : (M.empty d e sz).H o = M.H o := by simp [Mem.empty, upd, hne]
  have hob := ok1.objs o
  unfold ObjR at hob
  rw [ho1, hH, ho] at hob
  obtain ⟨hw, b, K, c, ty, hb, hc, hs, hv⟩ := hob
  have hi : i < ts.length := (List.getElem?_eq_some_iff.1 h).1
  have hlo := offsOK_length _ _ _ _ (by simpa only [Tr.wf] using hw.1)
  have hat : Tr.atF 0 [i] (.node ss offs ts) = some (0 + offs[i]'(by omega), .nils) := by
    simp [Tr.atF, h, show offs[i]? = some (offs[i]'(by omega)) by simp]
  obtain ⟨t', k, hset, hw', hsz', _, hk, hl⟩ := set_leaves [i] (.node ss offs ts) 0 _ .nils (.own d ((M.H d).1 + 1) 0 0) hw hat trivial rfl
  have ht' : t' = .node ss offs (ts.set i (.own d ((M.H d).1 + 1) 0 0)) := by
    simp only [Tr.setF, h, Option.map_some, Option.some.injEq] at hset
    exact hset.symm
  have hkn : (Tr.node ss offs ts).leaves[k]? = some .nils := by
    obtain ⟨_, k2, hk2, _, hl2⟩ := at_leaves [i] _ 0 _ .nils hw hat
    rename_i hko _
    have e2 : k2 = k := by omega
    subst e2
    have := congrArg (·[0]?) hl2
    simpa [Tr.leaves, Tr.size, List.getElem?_take, List.getElem?_drop] using this
  let M1 := M.empty d e sz
  let M2 : Mem := ⟨M1.w, M1.Im, M1.β, upd M1.H o ((M1.H o).1, .cells t')⟩
  have hlive : ∀ d', Live M2 d' → Live M1 d' := fun d' hl' => by
    by_cases hd : d' = o
    · subst hd; unfold Live; rw [ho1, hH, ho]; simp
    · simpa [M2, Live, upd, hd] using hl'
  have hm2 : Mono M1 M2 := by
    refine ⟨fun _ h => h, fun _ _ => rfl, fun d' => ?_, fun d' _ => ⟨rfl, ?_⟩⟩
    · simp only [M2, upd]; split
      · rename_i hh; subst hh; exact Nat.le_refl _
      · exact Nat.le_refl _
    · simp only [M2, upd]; split
      · rename_i hh; subst hh; intro e sz xs' hx; cases hx
      · exact fun _ _ xs hx => ⟨xs, hx⟩
  have ok2 : MemOK M2 := by
    refine ⟨fun d' => ?_, fun d1 d2 b K K' hn l1 l2 e1 e2 => ok1.inj d1 d2 b K K' hn (hlive _ l1) (hlive _ l2) e1 e2, fun d' b K l1 e1 => ok1.sep d' b K (hlive _ l1) e1, ok1.lt⟩
    by_cases hd : d' = o
    · subst hd
      unfold ObjR
      simp only [M2, upd_same]
      refine ⟨hw', b, K, c, ty, hb, hc, by rw [hsz']; exact hs, fun j l hj => ?_⟩
      rw [hl, List.getElem?_append] at hj
      have hkl : k ≤ (Tr.node ss offs ts).leaves.length := Nat.le_of_lt (List.getElem?_eq_some_iff.1 hkn).1
      rw [List.length_take, Nat.min_eq_left hkl] at hj
      split at hj
      · rename_i hjk
        rw [List.getElem?_take, if_pos hjk] at hj
        exact (hv j l hj).mono hm2
      · rename_i hjk
        simp only [Tr.leaves, List.singleton_append] at hj
        by_cases hjk2 : j = k
        · subst hjk2
          simp only [Nat.sub_self, List.getElem?_cons_zero, Option.some.injEq] at hj
          subst hj
          have := hv j _ hkn
          rw [nils_val this]
          exact (empty_vr M d e sz).mono hm2
        · have e1 : j - k = (j - k - 1) + 1 := by omega
          rw [e1, List.getElem?_cons_succ, List.getElem?_drop] at hj
          have e2 : k + Tr.nils.size + (j - k - 1) = j := by simp only [Tr.size]; omega
          rw [e2] at hj
          exact (hv j l hj).mono hm2
    · exact (ok1.objs d').mono hm2 (by simp [M2, upd, hd]) (fun _ _ _ _ => rfl)
  refine ⟨M2, rfl, ?_, ok2, ⟨fr1.os, fr1.tape, fr1.output, fr1.size, fr1.blk, fun d' b K hl' hb' => fr1.own d' b K (hlive _ hl') hb', fr1.im0, fr1.im1⟩, (g.mono.trans hm).trans hm2, fun t => ((g.tm t).mono hm).mono hm2, g.sz, g.df⟩
  show upd (upd M.H d ((M.H d).1 + 1, .row e sz [])) o ((upd M.H d ((M.H d).1 + 1, .row e sz []) o).1, .cells t') = _
  rw [ht', upd_ne _ _ _ _ hne, hH]
end Go.Proofs.Ytnonimnhninafaa.Ab

/- Loops, told once: what lives at their head, what a round does, what they leave. -/
namespace Go.Proofs.Ytnonimnhninafaa.Ab
open Go
set_option linter.unusedVariables false
set_option linter.unusedSimpArgs false

/-- A row of the call's own: its label, its elements' type, their code. -/
abbrev RowA := Nat × TypeId × Ty

/-- What is known of a state: slots that hold typed values, slots that point to objects, objects; which slots and which parts of objects hold rows of the call's own. -/
structure Ann where
  vals : List (Nat × Ty)
  ptrs : List (Nat × Nat)
  objs : List (Nat × Ty)
  rows : List (Nat × RowA)
  orows : List (Nat × Nat × RowA)
  clos : List (Nat × FuncId × List Nat)

def HV (l : List (Nat × Ty)) : Type := HL (l.map (·.2))
abbrev Ann.X (a : Ann) : Type := HL (a.vals.map (·.2)) × HL (a.objs.map (·.2))

def rowAt : List (Nat × RowA) → Nat → Option RowA
  | [], _ => none
  | (t, r) :: l, u => bif Nat.beq t u then some r else rowAt l u
def orowsOf : List (Nat × Nat × RowA) → Nat → List (Nat × RowA)
  | [], _ => []
  | (d, q) :: l, o => bif Nat.beq d o then q :: orowsOf l o else orowsOf l o
def Ann.labs (a : Ann) : List Nat := a.rows.map (·.2.1) ++ a.orows.map (·.2.2.1)

/-- Slots that hold nothing hold empty rows. -/
def adT (q : Nat × RowA) (s : VSt) : VSt :=
  match lkT s.T q.1 with
  | .nils => ⟨(q.1, .ownA q.2.1 (s.cur q.2.1 + 1) 0) :: s.T, (q.2.1, s.cur q.2.1 + 1, .rowT q.2.2.1 q.2.2.2 []) :: s.H⟩
  | _ => s
def adTs : List (Nat × RowA) → VSt → VSt
  | [], s => s
  | q :: l, s => adTs l (adT q s)
def adO (q : Nat × Nat × RowA) (s : VSt) : VSt :=
  match (lkH s.H q.1).2 with
  | .cells (.node si vs) => match vs[q.2.1]? with
    | some .nils => bif Nat.beq q.1 q.2.2.1 then s else
        ⟨s.T, (q.1, s.cur q.1, .cells (.node si (vs.set q.2.1 (.ownA q.2.2.1 (s.cur q.2.2.1 + 1) 0)))) :: (q.2.2.1, s.cur q.2.2.1 + 1, .rowT q.2.2.2.1 q.2.2.2.2 []) :: s.H⟩
    | _ => s
  | _ => s
def adOs : List (Nat × Nat × RowA) → VSt → VSt
  | [], s => s
  | q :: l, s => adOs l (adO q s)
/-- Rows of typed values are told so. -/
def tyR (r : RowA) (s : VSt) : VSt :=
  match (lkH s.H r.1).2 with
  | .rowV e sz vs => bif Nat.beq sz (tsz r.2.2) then match castEach r.2.2 vs with
      | some xs => ⟨s.T, (r.1, s.cur r.1, .rowT e r.2.2 xs) :: s.H⟩
      | none => s
    else s
  | _ => s
def tyRs : List RowA → VSt → VSt
  | [], s => s
  | r :: l, s => tyRs l (tyR r s)
def Ann.norm (a : Ann) (s : VSt) : VSt := tyRs (a.orows.map (·.2.2)) (tyRs (a.rows.map (·.2)) (adOs a.orows (adTs a.rows s)))

def hideH (ls : List Nat) (Hl : List (Nat × (Nat × VObj))) : List (Nat × (Nat × VObj)) := ls.map (fun d => (d, (lkH Hl d).1, VObj.unk)) ++ Hl
def getRow (s : VSt) (v : V) (r : RowA) : Option (List (den r.2.2)) :=
  match v with
  | .ownA d g _ => bif Nat.beq d r.1 && Nat.beq (s.cur d) g then match (lkH s.H d).2 with
      | .rowT e c xs => bif Nat.beq e r.2.1 then castTo (.sl r.2.2) ⟨.sl c, xs⟩ else none
      | _ => none
    else none
  | _ => none
def getVal (Hh : List (Nat × (Nat × VObj))) (s : VSt) (r : Option RowA) (v : V) (c : Ty) : Option (den c) :=
  match r with
  | some r => match getRow s v r with
    | some xs => castTo c ⟨.sl r.2.2, xs⟩
    | none => none
  | none => castX Hh (unk v) c
def getVals (Hh : List (Nat × (Nat × VObj))) (rows : List (Nat × RowA)) (s : VSt) : (l : List (Nat × Ty)) → Option (HL (l.map (·.2)))
  | [] => some ()
  | (t, c) :: l => match getVal Hh s (rowAt rows t) (lkT s.T t) c, getVals Hh rows s l with
    | some x, some h => some (x, h)
    | _, _ => none
def fillRows (s : VSt) : List (Nat × RowA) → List V → Option (List V)
  | [], vs => some vs
  | (i, r) :: rs, vs => match vs[i]? with
    | some v => match getRow s v r with
      | some xs => fillRows s rs (vs.set i (.tv (.sl r.2.2) xs))
      | none => none
    | none => none
def getObj (Hh : List (Nat × (Nat × VObj))) (s : VSt) (rs : List (Nat × RowA)) (v : V) (c : Ty) : Option (den c) :=
  match rs with
  | [] => castX Hh v c
  | r :: rs => match v with
    | .node si vs => match fillRows s (r :: rs) vs with
      | some vs' => castX Hh (.node si vs') c
      | none => none
    | _ => none
def getObjs (Hh : List (Nat × (Nat × VObj))) (orows : List (Nat × Nat × RowA)) (s : VSt) : (l : List (Nat × Ty)) → Option (HL (l.map (·.2)))
  | [] => some ()
  | (d, c) :: l => match (lkH s.H d).2 with
    | .cells v => match getObj Hh s (orowsOf orows d) v c, getObjs Hh orows s l with
      | some x, some h => some (x, h)
      | _, _ => none
    | _ => none
def getPtrs (s : VSt) : List (Nat × Nat) → Bool
  | [] => true
  | (t, d) :: l => (match lkT s.T t with
    | .vptr d' g p off => Nat.beq d' d && (Nat.beq (s.cur d) g && (p.isEmpty && Nat.beq off 0))
    | _ => false) && getPtrs s l
def ptrTo (s : VSt) (d : Nat) (v : V) : Bool :=
  match v with
  | .vptr d' g p off => Nat.beq d' d && (Nat.beq (s.cur d) g && (p.isEmpty && Nat.beq off 0))
  | _ => false
def ptrsTo (s : VSt) : List Nat → List V → Bool
  | [], [] => true
  | d :: ds, v :: vs => ptrTo s d v && ptrsTo s ds vs
  | _, _ => false
def getClos (s : VSt) : List (Nat × FuncId × List Nat) → Bool
  | [] => true
  | (t, f, ds) :: l => (match lkT s.T t with
    | .clo g vs => Nat.beq g f && ptrsTo s ds vs
    | _ => false) && getClos s l
def getB (a : Ann) (s : VSt) : Option a.X :=
  match getPtrs s a.ptrs && getClos s a.clos with
  | true => match getVals (hideH a.labs s.H) a.rows s a.vals, getObjs (hideH a.labs s.H) a.orows s a.objs with
    | some x, some y => some (x, y)
    | _, _ => none
  | false => none
def getA (a : Ann) (s : VSt) : Option a.X := getB a (a.norm s)

def putVal (r : Option RowA) (c : Ty) (x : den c) : V :=
  match r with
  | some r => match c, x with
    | .sl _, x => .ownA r.1 1 (List.length x)
    | _, _ => .any
  | none => V.of c x
def putRow (r : Option RowA) (c : Ty) (x : den c) : List (Nat × (Nat × VObj)) :=
  match r with
  | some r => match c, x with
    | .sl c, x => [(r.1, 1, .rowT r.2.1 c x)]
    | _, _ => []
  | none => []
def putVals (rows : List (Nat × RowA)) : (l : List (Nat × Ty)) → HL (l.map (·.2)) → List (Nat × V) → List (Nat × V)
  | [], _, T => T
  | (t, c) :: l, h, T => (t, putVal (rowAt rows t) c h.1) :: putVals rows l h.2 T
def putRows (rows : List (Nat × RowA)) : (l : List (Nat × Ty)) → HL (l.map (·.2)) → List (Nat × (Nat × VObj)) → List (Nat × (Nat × VObj))
  | [], _, Hl => Hl
  | (t, c) :: l, h, Hl => putRow (rowAt rows t) c h.1 ++ putRows rows l h.2 Hl
def putPtrs : List (Nat × Nat) → List (Nat × V)
  | [] => []
  | (t, d) :: l => (t, .vptr d 1 [] 0) :: putPtrs l
def putClos : List (Nat × FuncId × List Nat) → List (Nat × V)
  | [] => []
  | (t, f, ds) :: l => (t, .clo f (ds.map fun d => .vptr d 1 [] 0)) :: putClos l
def setRows : List (Nat × RowA) → List V → List V
  | [], vs => vs
  | (i, r) :: rs, vs => match (setRows rs vs)[i]? with
    | some (.tv (.sl c) xs) => (setRows rs vs).set i (.ownA r.1 1 (List.length (α := den c) xs))
    | _ => (setRows rs vs).set i .any
def rowsO : List (Nat × RowA) → List V → List (Nat × (Nat × VObj))
  | [], _ => []
  | (i, r) :: rs, vs => (match (setRows rs vs)[i]? with
    | some (.tv (.sl c) xs) => (r.1, 1, .rowT r.2.1 c xs)
    | _ => (r.1, 1, .unk)) :: rowsO rs vs
def putO (d : Nat) (rs : List (Nat × RowA)) (c : Ty) (x : den c) : List (Nat × (Nat × VObj)) :=
  match rs with
  | [] => [(d, 1, .cells (V.of c x))]
  | r :: rs => match c, x with
    | .st si, x => (d, 1, .cells (.node si (setRows (r :: rs) ((parts si x).map fun p => V.of p.1 p.2)))) :: rowsO (r :: rs) ((parts si x).map fun p => V.of p.1 p.2)
    | _, _ => [(d, 1, .unk)]
def putObjs (orows : List (Nat × Nat × RowA)) : (l : List (Nat × Ty)) → HL (l.map (·.2)) → List (Nat × (Nat × VObj))
  | [], _ => []
  | (d, c) :: l, h => putO d (orowsOf orows d) c h.1 ++ putObjs orows l h.2
def putA (a : Ann) (x : a.X) : VSt := ⟨putVals a.rows a.vals x.1 (putPtrs a.ptrs ++ putClos a.clos), putRows a.rows a.vals x.1 (putObjs a.orows a.objs x.2)⟩

/-- Do all pointers go to objects that are told, and all rows lie apart from them? -/
def Ann.ok (a : Ann) : Bool := (a.ptrs.all fun p => a.objs.any fun q => Nat.beq q.1 p.2) && ((a.rows.all fun q => Nat.blt 0 (tsz q.2.2.2) && Nat.blt q.2.1 LB) && (a.orows.all fun q => Nat.blt 0 (tsz q.2.2.2.2) && Nat.blt q.2.2.1 LB)) && (a.clos.all fun q => q.2.2.all fun d => a.objs.any fun o => Nat.beq o.1 d)

section
variable {s : VSt} {s' : St}

/-- What a state can be told as: whatever memory it is told of. -/
def Turns (s' s2' : St) : Prop := ∀ (M0 : Mem) (nt : Nat) (M : Mem) (act : Act), Gam M0 nt s' M act → ∃ M', M'.w = M.w ∧ Gam M0 nt s2' M' act
theorem Turns.refl (s' : St) : Turns s' s' := fun _ _ M _ g => ⟨M, rfl, g⟩
theorem Turns.trans {s1 s2 s3 : St} (h : Turns s1 s2) (k : Turns s2 s3) : Turns s1 s3 := fun M0 nt M act g => by
  obtain ⟨M1, e1, g1⟩ := h M0 nt M act g
  obtain ⟨M2, e2, g2⟩ := k M0 nt M1 act g1
  exact ⟨M2, e2.trans e1, g2⟩
theorem Turns.freeze (s' : St) (D : Nat → Bool) : Turns s' (frzSt s' D) := fun M0 nt M act g => ⟨M.frz2 D, rfl, g.freeze D⟩

theorem nils_tr {cur : Nat → Nat} {H : Heap} {t : Tr} (h : FlatR cur H .nils t) : t = .nils := by cases h; rfl

theorem HInv.make {H : Heap} (h : HInv H) {d : Nat} (hd : d < LB) (o : Nat × AObj) : HInv (upd H d o) := fun j hj => by
  rw [upd_ne _ _ _ _ (by omega)]; exact h j hj
theorem HInv.frz {H : Heap} (h : HInv H) (D : Nat → Bool) : HInv (frzH H D) := fun j hj => by
  obtain ⟨g0, g1⟩ := h j hj
  unfold frzH
  split
  · rename_i e sz xs hr; exact absurd hr (g1 e sz xs)
  · refine ⟨g0, fun e sz ts hr => ?_⟩
    cases ho : (H j).2 with
    | row e sz ts => exact absurd ho (g1 e sz ts)
    | dead => simp only at hr; rw [ho] at hr; cases hr
    | cells t => simp only at hr; rw [ho] at hr; cases hr

theorem adT_ok (r : Rel s s') (q : Nat × RowA) (hq : 0 < tsz q.2.2.2) (hlb : q.2.1 < LB) : ∃ s2', Rel (adT q s) s2' ∧ Turns s' s2' := by
  unfold adT
  split
  · rename_i h
    have ht := r.T q.1
    rw [h] at ht
    have ht' : s'.T q.1 = .nils := nils_tr ht
    refine ⟨⟨upd s'.T q.1 (.own q.2.1 ((s'.H q.2.1).1 + 1) 0 0), upd s'.H q.2.1 ((s'.H q.2.1).1 + 1, .row q.2.2.1 (tsz q.2.2.2) [])⟩, ?_, fun M0 nt M act g => ⟨M.empty q.2.1 q.2.2.1 (tsz q.2.2.2), rfl, g.adopt q.1 q.2.1 q.2.2.1 _ hq ht'⟩⟩
    have hk := Keeps.new (cur := s.cur) (H := s'.H) q.2.1 (.row q.2.2.1 (tsz q.2.2.2) [])
    refine ⟨fun t => ?_, fun d => ?_, r.G.make hlb _⟩
    · rw [cur_cons, lkT_cons]
      show FlatR _ _ _ (upd s'.T q.1 _ t)
      rw [upd_apply]
      split
      · exact .ownA (by simp) fun _ => ⟨by simp, fun e sz ts h => by simp at h; rw [h.2.2]; rfl⟩
      · exact (r.T t).keep hk
    · rw [cur_cons]
      simp only [lkH_cons, upd_apply]
      split
      · exact ⟨[], rfl, rfl, fun i x t hx => by simp at hx⟩
      · exact (r.O d).keep hk
  · exact ⟨s', r, .refl _⟩
theorem adTs_ok : ∀ (l : List (Nat × RowA)) {s : VSt} {s' : St}, Rel s s' → (∀ q ∈ l, 0 < tsz q.2.2.2 ∧ q.2.1 < LB) → ∃ s2', Rel (adTs l s) s2' ∧ Turns s' s2'
  | [], s, s', r, _ => ⟨s', r, .refl _⟩
  | q :: l, s, s', r, h => by
    obtain ⟨s1, r1, t1⟩ := adT_ok r q (h q (by simp)).1 (h q (by simp)).2
    obtain ⟨s2, r2, t2⟩ := adTs_ok l r1 fun q hq => h q (by simp [hq])
    exact ⟨s2, r2, t1.trans t2⟩

theorem adO_ok (r : Rel s s') (q : Nat × Nat × RowA) (hq : 0 < tsz q.2.2.2.2) (hlb : q.2.2.1 < LB) : ∃ s2', Rel (adO q s) s2' ∧ Turns s' s2' := by
  unfold adO
  split
  · rename_i si vs ho
    split
    · rename_i hn
      cases hb : Nat.beq q.1 q.2.2.1 with
      | true => exact ⟨s', r, .refl _⟩
      | false =>
        have hne := beq_ne hb
        simp only [cond_false]
        have hro := r.O q.1
        rw [ho] at hro
        obtain ⟨t, ht, hf⟩ := hro
        cases hf with
        | @node _ _ ts hl hp =>
          obtain ⟨u, hu⟩ := get_of_len hl hn
          have hfu := hp _ _ _ hn hu
          have hu' : u = .nils := nils_tr hfu
          subst hu'
          refine ⟨⟨s'.T, upd (upd s'.H q.2.2.1 ((s'.H q.2.2.1).1 + 1, .row q.2.2.2.1 (tsz q.2.2.2.2) [])) q.1 ((s'.H q.1).1, .cells (.node (ssz si) (soffs si) (ts.set q.2.1 (.own q.2.2.1 ((s'.H q.2.2.1).1 + 1) 0 0))))⟩, ?_,
            fun M0 nt M act g => g.adoptO q.1 q.2.2.1 q.2.2.2.1 _ q.2.1 _ _ ts hq hne ht hu⟩
          have hk1 := Keeps.new (cur := s.cur) (H := s'.H) q.2.2.1 (.row q.2.2.2.1 (tsz q.2.2.2.2) [])
          generalize hcur1 : upd s.cur q.2.2.1 (s.cur q.2.2.1 + 1) = cur1 at hk1
          generalize hH1 : upd s'.H q.2.2.1 ((s'.H q.2.2.1).1 + 1, AObj.row q.2.2.2.1 (tsz q.2.2.2.2) []) = H1 at hk1
          have hH1o : H1 q.1 = s'.H q.1 := by rw [← hH1, upd_ne _ _ _ _ hne]
          have hc1o : cur1 q.1 = s.cur q.1 := by rw [← hcur1, upd_ne _ _ _ _ hne]
          have hk2 := Keeps.write (cur := cur1) (H := H1) q.1 (.cells (.node (ssz si) (soffs si) (ts.set q.2.1 (.own q.2.2.1 ((s'.H q.2.2.1).1 + 1) 0 0)))) (fun e sz ts h => by cases h)
          have hcc : VSt.cur ⟨s.T, (q.1, s.cur q.1, .cells (.node si (vs.set q.2.1 (.ownA q.2.2.1 (s.cur q.2.2.1 + 1) 0)))) :: (q.2.2.1, s.cur q.2.2.1 + 1, .rowT q.2.2.2.1 q.2.2.2.2 []) :: s.H⟩ = upd cur1 q.1 (cur1 q.1) := by
            rw [cur_cons, cur_cons, hc1o, ← hcur1]
          rw [hH1o] at hk2
          have hown : FlatR (upd cur1 q.1 (cur1 q.1)) (upd H1 q.1 ((s'.H q.1).1, .cells (.node (ssz si) (soffs si) (ts.set q.2.1 (.own q.2.2.1 ((s'.H q.2.2.1).1 + 1) 0 0))))) (.ownA q.2.2.1 (s.cur q.2.2.1 + 1) 0) (.own q.2.2.1 ((s'.H q.2.2.1).1 + 1) 0 0) := by
            have e1 : H1 q.2.2.1 = ((s'.H q.2.2.1).1 + 1, AObj.row q.2.2.2.1 (tsz q.2.2.2.2) []) := by rw [← hH1, upd_same]
            have e2 : cur1 q.2.2.1 = s.cur q.2.2.1 + 1 := by rw [← hcur1, upd_same]
            refine FlatR.keep hk2 (.ownA (by omega) fun _ => ⟨by rw [e1], fun e sz ts h => ?_⟩)
            rw [e1] at h
            simp at h
            rw [h.2.2]; rfl
          refine ⟨fun t => ?_, fun d => ?_, fun j hj => ?_⟩
          rotate_right
          · dsimp only
            by_cases hjq : j = q.1
            · subst hjq
              rw [upd_same]
              exact ⟨(r.G _ hj).1, fun e sz ts h => by cases h⟩
            · rw [upd_ne _ _ _ _ hjq, ← hH1]
              exact r.G.make hlb _ j hj
          · rw [hcc]
            exact ((r.T t).keep hk1).keep hk2
          · rw [hcc]
            simp only [lkH_cons, upd_apply]
            split
            · rename_i e; subst e
              refine ⟨_, rfl, .node (by simp [hl]) ?_⟩
              have hfl : FlatL _ _ vs ts := ⟨hl, fun i v t hv ht => ((hp i v t hv ht).keep hk1).keep hk2⟩
              exact (hfl.set q.2.1 hown).2
            · split
              · rename_i e; subst e
                rw [← hH1, upd_same]
                exact ⟨[], rfl, rfl, fun i x t hx => by simp at hx⟩
              · rename_i n1 n2
                have e1 : H1 d = s'.H d := by rw [← hH1, upd_ne _ _ _ _ n2]
                rw [e1]
                exact ((r.O d).keep hk1).keep hk2
    · exact ⟨s', r, .refl _⟩
  · exact ⟨s', r, .refl _⟩
theorem adOs_ok : ∀ (l : List (Nat × Nat × RowA)) {s : VSt} {s' : St}, Rel s s' → (∀ q ∈ l, 0 < tsz q.2.2.2.2 ∧ q.2.2.1 < LB) → ∃ s2', Rel (adOs l s) s2' ∧ Turns s' s2'
  | [], s, s', r, _ => ⟨s', r, .refl _⟩
  | q :: l, s, s', r, h => by
    obtain ⟨s1, r1, t1⟩ := adO_ok r q (h q (by simp)).1 (h q (by simp)).2
    obtain ⟨s2, r2, t2⟩ := adOs_ok l r1 fun q hq => h q (by simp [hq])
    exact ⟨s2, r2, t1.trans t2⟩

theorem tyR_ok (r : Rel s s') (q : RowA) : Rel (tyR q s) s' := by
  unfold tyR
  split
  · rename_i e sz vs ho
    cases hb : Nat.beq sz (tsz q.2.2) with
    | false => exact r
    | true =>
      have hz := Nat.eq_of_beq_eq_true hb
      simp only [cond_true]
      split
      · rename_i xs hxs
        have hcur : VSt.cur ⟨s.T, (q.1, s.cur q.1, .rowT e q.2.2 xs) :: s.H⟩ = s.cur := by
          rw [cur_cons]; exact upd_self' _ _ rfl
        refine ⟨fun t => by rw [hcur]; exact r.T t, fun d => ?_, r.G⟩
        rw [hcur]
        simp only [lkH_cons]
        split
        · rename_i hd; subst hd
          have := r.O q.1
          rw [ho] at this
          obtain ⟨ts, h1, h2⟩ := this
          subst hz
          exact ⟨ts, h1, castEach_sound hxs h2⟩
        · exact r.O d
      · exact r
  · exact r
theorem tyRs_ok : ∀ (l : List RowA) {s : VSt}, Rel s s' → Rel (tyRs l s) s'
  | [], s, r => r
  | q :: l, s, r => tyRs_ok l (tyR_ok r q)

theorem norm_ok {a : Ann} (hok : a.ok = true) (r : Rel s s') : ∃ s2', Rel (a.norm s) s2' ∧ Turns s' s2' := by
  simp only [Ann.ok, Bool.and_eq_true, List.all_eq_true, Nat.blt_eq] at hok
  obtain ⟨s1, r1, t1⟩ := adTs_ok a.rows r hok.1.2.1
  obtain ⟨s2, r2, t2⟩ := adOs_ok a.orows r1 hok.1.2.2
  exact ⟨s2, tyRs_ok _ (tyRs_ok _ r2), t1.trans t2⟩

theorem lkT_entry : ∀ (l : List (Nat × V)) (t : Nat), lkT l t = .any ∨ (t, lkT l t) ∈ l
  | [], t => .inl rfl
  | (a, v) :: l, t => by
    rw [lkT_cons]
    split
    · rename_i e; subst e; exact .inr (by simp)
    · rcases lkT_entry l t with h | h
      · exact .inl h
      · exact .inr (List.mem_cons_of_mem _ h)
theorem lkH_entry : ∀ (l : List (Nat × (Nat × VObj))) (d : Nat), (lkH l d = (0, .unk) ∧ ∀ p, (d, p) ∉ l) ∨ (d, lkH l d) ∈ l
  | [], d => .inl ⟨rfl, fun p h => by simp at h⟩
  | (a, o) :: l, d => by
    rw [lkH_cons]
    split
    · rename_i e; subst e; exact .inr (by simp)
    · rename_i e
      rcases lkH_entry l d with ⟨h, h2⟩ | h
      · refine .inl ⟨h, fun p hp => ?_⟩
        rcases List.mem_cons.1 hp with hp | hp
        · exact e (congrArg Prod.fst hp)
        · exact h2 p hp
      · exact .inr (List.mem_cons_of_mem _ h)

/-- A state that is told by entries. -/
theorem rel_of {s : VSt} {s' : St} (hT : ∀ t v, (t, v) ∈ s.T → FlatR s.cur s'.H v (s'.T t)) (hH : ∀ d p, (d, p) ∈ s.H → ObjF s.cur s'.H p.2 (s'.H d).2) (hG : HInv s'.H) : Rel s s' := by
  refine ⟨fun t => ?_, fun d => ?_, hG⟩
  · rcases lkT_entry s.T t with h | h
    · rw [h]; exact .any _
    · exact hT t _ h
  · rcases lkH_entry s.H d with ⟨h, _⟩ | h
    · rw [h]; trivial
    · exact hH d _ h

def keepD (ls : List Nat) : Nat → Bool := fun d => !ls.contains d

theorem castX_hide (r : Rel s s') (ls : List Nat) {v : V} {c : Ty} {x : den c} {t : Tr} (h : castX (hideH ls s.H) v c = some x) (hf : FlatR s.cur s'.H v t) : TVR c x (frz s'.H (keepD ls) t) := by
  refine castX_sound (D := keepD ls) (H0 := s'.H) v c x t h hf fun d _ => ?_
  have key : ∀ l : List Nat, lkH (l.map (fun d => (d, (lkH s.H d).1, VObj.unk)) ++ s.H) d = if d ∈ l then ((lkH s.H d).1, .unk) else lkH s.H d := by
    intro l
    induction l with
    | nil => simp
    | cons a l ih =>
      simp only [List.map_cons, List.cons_append, lkH_cons, ih, List.mem_cons]
      by_cases h : d = a
      · subst h; simp
      · simp [h]
  show (lkH (hideH ls s.H) d).2 = .unk ∨ _
  unfold hideH
  rw [key]
  by_cases hd : d ∈ ls
  · left; rw [if_pos hd]
  · right
    rw [if_neg hd]
    exact ⟨rfl, r.O d, by simp [keepD, hd]⟩

theorem getRow_sound (r : Rel s s') {v : V} {t : Tr} {q : RowA} {xs : List (den q.2.2)} (hf : FlatR s.cur s'.H v t) (h : getRow s v q = some xs) :
    t = .own q.1 (s'.H q.1).1 0 xs.length ∧ ∃ ts, (s'.H q.1).2 = .row q.2.1 (tsz q.2.2) ts ∧ TVL q.2.2 xs ts := by
  cases hf with
  | @ownA d g n t b1 b2 =>
    unfold getRow at h
    dsimp only at h
    obtain ⟨hg, h⟩ := bif_some h
    simp only [Bool.and_eq_true] at hg
    have h1 := Nat.eq_of_beq_eq_true hg.1
    have h2 := Nat.eq_of_beq_eq_true hg.2
    subst h1
    obtain ⟨hx, hlen⟩ := b2 h2
    have ho := r.O q.1
    split at h
    · rename_i e c ys hrow
      have hq := bif_some h
      have he := Nat.eq_of_beq_eq_true hq.1
      rw [hrow] at ho
      obtain ⟨ts, hr, htl⟩ := ho
      obtain ⟨k, e2⟩ := castTo_sl hq.2 htl
      subst e2
      subst he
      refine ⟨?_, ts, hr, k⟩
      rw [hx, ← hlen _ _ _ hr, k.1]
    · cases h
  | _ => unfold getRow at h; cases h

theorem keepD_mem {ls : List Nat} {d : Nat} (h : d ∈ ls) : keepD ls d = false := by simp [keepD, h]
theorem frz_own_keep {H : Heap} {ls : List Nat} {d g lo n : Nat} (h : d ∈ ls) : frz H (keepD ls) (.own d g lo n) = .own d g lo n := by
  simp only [frz, keepD_mem h]
  split <;> simp
theorem frzH_keep_gen {H : Heap} {ls : List Nat} {d : Nat} (h : d ∈ ls) : (frzH H (keepD ls) d).1 = (H d).1 := by
  unfold frzH
  split
  · rw [if_neg (by rw [keepD_mem h]; simp)]
  · rfl
theorem frzH_row {H : Heap} {ls : List Nat} {d : Nat} (h : d ∈ ls) {e sz : Nat} {c : Ty} {xs : List (den c)} {ts : List Tr} (hr : (H d).2 = .row e sz ts) (htl : TVL c xs ts) : (frzH H (keepD ls) d).2 = .row e sz ts := by
  unfold frzH
  rw [hr]
  simp only
  rw [if_neg (by rw [keepD_mem h]; simp)]
  simp only [frzO]
  congr 1
  conv => rhs; rw [← List.map_id ts]
  exact List.map_congr_left fun x hx => frz_lf H _ x ((lfL_iff _).1 htl.lf x hx)

theorem getVal_some {Hh : List (Nat × (Nat × VObj))} {q : RowA} {v : V} {c : Ty} {x : den c} (h : getVal Hh s (some q) v c = some x) : ∃ xs, getRow s v q = some xs ∧ (⟨.sl q.2.2, xs⟩ : TV) = ⟨c, x⟩ := by
  unfold getVal at h
  dsimp only at h
  split at h
  · rename_i xs hxs
    exact ⟨xs, hxs, castTo_eq h⟩
  · cases h

theorem TVR.sl_inv {c : Ty} {x : den (.sl c)} {t : Tr} (h : TVR (.sl c) x t) {sz : Nat} {ts : List Tr} (e : t = .sl sz ts) : sz = tsz c ∧ TVL c x ts := by
  cases h with
  | nil => cases e
  | sl xs ts hl h => cases e; exact ⟨rfl, hl, h⟩
theorem TVR.st_inv {si : SId} {x : den (.st si)} {t : Tr} (h : TVR (.st si) x t) {a : Nat} {b : List Nat} {ts : List Tr} (e : t = .node a b ts) : ts.length = (parts si x).length ∧ ∀ (i : Nat) p t, (parts si x)[i]? = some p → ts[i]? = some t → TVR p.1 p.2 t := by
  cases h with
  | st s x ts hl h => cases e; exact ⟨hl, h⟩

theorem getVals_mem {Hh : List (Nat × (Nat × VObj))} {rows : List (Nat × RowA)} : ∀ (l : List (Nat × Ty)) (h : HL (l.map (·.2))) (T : List (Nat × V)) (Hl : List (Nat × (Nat × VObj))), getVals Hh rows s l = some h → ∀ t v, (t, v) ∈ putVals rows l h T →
    (t, v) ∈ T ∨ ((∃ c x, getVal Hh s (rowAt rows t) (lkT s.T t) c = some x ∧ v = putVal (rowAt rows t) c x) ∧ ∀ r, rowAt rows t = some r → ∃ p, (r.1, 1, p) ∈ putRows rows l h Hl)
  | [], h, T, Hl, _, t, v, hm => .inl hm
  | (a, c) :: l, h, T, Hl, hg, t, v, hm => by
    simp only [getVals] at hg
    split at hg
    · rename_i x h' hx hh
      obtain rfl := Option.some.inj hg
      simp only [putVals, List.mem_cons, Prod.mk.injEq] at hm
      rcases hm with ⟨rfl, rfl⟩ | hm
      · refine .inr ⟨⟨c, x, hx, rfl⟩, fun r hr => ?_⟩
        rw [hr] at hx
        obtain ⟨xs, _, e⟩ := getVal_some hx
        cases e
        exact ⟨_, by simp only [putRows, hr, putRow, List.mem_append]; exact .inl (List.mem_singleton.2 rfl)⟩
      · rcases getVals_mem l h' T Hl hh t v hm with h1 | ⟨h1, h2⟩
        · exact .inl h1
        · refine .inr ⟨h1, fun r hr => ?_⟩
          obtain ⟨p, hp⟩ := h2 r hr
          exact ⟨p, by simp only [putRows, List.mem_append]; exact .inr hp⟩
    · cases hg
theorem putRows_mem {Hh : List (Nat × (Nat × VObj))} {rows : List (Nat × RowA)} : ∀ (l : List (Nat × Ty)) (h : HL (l.map (·.2))) (Hl : List (Nat × (Nat × VObj))), getVals Hh rows s l = some h → ∀ d p, (d, p) ∈ putRows rows l h Hl → (d, p) ∈ Hl ∨ ∃ t c x, getVal Hh s (rowAt rows t) (lkT s.T t) c = some x ∧ (d, p) ∈ putRow (rowAt rows t) c x
  | [], h, Hl, _, d, p, hm => .inl hm
  | (a, c) :: l, h, Hl, hg, d, p, hm => by
    simp only [getVals] at hg
    split at hg
    · rename_i x h' hx hh
      obtain rfl := Option.some.inj hg
      simp only [putRows, List.mem_append] at hm
      rcases hm with hm | hm
      · exact .inr ⟨a, c, x, hx, hm⟩
      · exact putRows_mem l h' Hl hh d p hm
    · cases hg
theorem putRows_keep {rows : List (Nat × RowA)} : ∀ (l : List (Nat × Ty)) (h : HL (l.map (·.2))) (Hl : List (Nat × (Nat × VObj))) {p : Nat × (Nat × VObj)}, p ∈ Hl → p ∈ putRows rows l h Hl
  | [], h, Hl, p, hp => hp
  | (a, c) :: l, h, Hl, p, hp => by simp only [putRows, List.mem_append]; exact .inr (putRows_keep l h.2 Hl hp)
theorem putRow_gen {r : Option RowA} {c : Ty} {x : den c} {d : Nat} {p : Nat × VObj} (h : (d, p) ∈ putRow r c x) : p.1 = 1 := by
  cases r with
  | none => simp [putRow] at h
  | some r => cases c with
    | sl c => simp only [putRow, List.mem_singleton, Prod.mk.injEq] at h; rw [h.2]
    | _ => simp [putRow] at h

theorem getVal_flat (r : Rel s s') {ls : List Nat} {cur1 : Nat → Nat} {q : Option RowA} (hq : ∀ r, q = some r → r.1 ∈ ls ∧ cur1 r.1 = 1) {t : Nat} {c : Ty} {x : den c} (h : getVal (hideH ls s.H) s q (lkT s.T t) c = some x) :
    FlatR cur1 (frzH s'.H (keepD ls)) (putVal q c x) (frz s'.H (keepD ls) (s'.T t)) := by
  cases q with
  | none => exact .of (castX_hide r ls h (unk_sound (r.T t)))
  | some q =>
    obtain ⟨xs, hrow, e⟩ := getVal_some h
    cases e
    obtain ⟨h1, h2⟩ := hq q rfl
    obtain ⟨k1, ts, k2, k3⟩ := getRow_sound r (r.T t) hrow
    show FlatR _ _ (.ownA q.1 1 (List.length _)) _
    rw [k1, frz_own_keep h1]
    refine .ownA (by omega) fun _ => ⟨by rw [frzH_keep_gen h1], fun e sz ts' hr => ?_⟩
    rw [frzH_row h1 k2 k3] at hr
    cases hr
    exact k3.1
theorem putRow_obj (r : Rel s s') {ls : List Nat} {cur1 : Nat → Nat} {q : Option RowA} (hq : ∀ r, q = some r → r.1 ∈ ls) {t : Nat} {c : Ty} {x : den c} (h : getVal (hideH ls s.H) s q (lkT s.T t) c = some x) {d : Nat} {p : Nat × VObj} (hm : (d, p) ∈ putRow q c x) :
    ObjF cur1 (frzH s'.H (keepD ls)) p.2 (frzH s'.H (keepD ls) d).2 := by
  cases q with
  | none => simp [putRow] at hm
  | some q =>
    obtain ⟨xs, hrow, e⟩ := getVal_some h
    cases e
    have h1 := hq q rfl
    obtain ⟨k1, ts, k2, k3⟩ := getRow_sound r (r.T t) hrow
    simp only [putRow, List.mem_singleton, Prod.mk.injEq] at hm
    obtain ⟨rfl, rfl⟩ := hm
    exact ⟨ts, frzH_row h1 k2 k3, k3⟩

theorem map_set_back {α β : Type} (f : α → β) {ts : List α} {i : Nat} {t t1 : α} (h : ts[i]? = some t) : ((ts.set i t1).map f).set i (f t) = ts.map f := by
  have hi : i < ts.length := (List.getElem?_eq_some_iff.1 h).1
  apply List.ext_getElem?
  intro j
  simp only [List.getElem?_set, List.getElem?_map, List.length_map, List.length_set]
  by_cases hj : i = j
  · subst hj
    obtain ⟨_, rfl⟩ := List.getElem?_eq_some_iff.1 h
    simp [hi]
  · simp [hj]

theorem rowsO_gen : ∀ (rs : List (Nat × RowA)) (us : List V) (d : Nat) (p : Nat × VObj), (d, p) ∈ rowsO rs us → p.1 = 1
  | [], us, d, p, h => by simp [rowsO] at h
  | (i, r) :: rs, us, d, p, h => by
    simp only [rowsO, List.mem_cons] at h
    rcases h with h | h
    · split at h
      · rw [Prod.mk.injEq] at h; rw [h.2]
      · rw [Prod.mk.injEq] at h; rw [h.2]
    · exact rowsO_gen rs us d p h
theorem rowsO_key : ∀ (rs : List (Nat × RowA)) (us : List V), ∀ q ∈ rs, ∃ p, (q.2.1, p) ∈ rowsO rs us
  | [], us, q, h => by simp at h
  | (i, r) :: rs, us, q, h => by
    rcases List.mem_cons.1 h with rfl | h
    · simp only [rowsO, List.mem_cons]
      split
      · exact ⟨_, .inl rfl⟩
      · exact ⟨_, .inl rfl⟩
    · obtain ⟨p, hp⟩ := rowsO_key rs us q h
      exact ⟨p, by simp only [rowsO, List.mem_cons]; exact .inr hp⟩

theorem fill_ok (r : Rel s s') {ls : List Nat} {cur1 : Nat → Nat} : ∀ (rs : List (Nat × RowA)) (vs vs' : List V) (ts : List Tr), (∀ q ∈ rs, q.2.1 ∈ ls ∧ cur1 q.2.1 = 1) → FlatL s.cur s'.H vs ts → fillRows s rs vs = some vs' →
    ∃ ts', FlatL s.cur s'.H vs' ts' ∧ ∀ us, FlatL cur1 (frzH s'.H (keepD ls)) us (ts'.map (frz s'.H (keepD ls))) →
      FlatL cur1 (frzH s'.H (keepD ls)) (setRows rs us) (ts.map (frz s'.H (keepD ls))) ∧ ∀ d p, (d, p) ∈ rowsO rs us → ObjF cur1 (frzH s'.H (keepD ls)) p.2 (frzH s'.H (keepD ls) d).2
  | [], vs, vs', ts, _, hf, h => by
    obtain rfl := Option.some.inj h
    exact ⟨ts, hf, fun us hu => ⟨hu, fun d p hm => by simp [rowsO] at hm⟩⟩
  | (i, q) :: rs, vs, vs', ts, hq, hf, h => by
    simp only [fillRows] at h
    split at h
    · rename_i v hv
      split at h
      · rename_i xs hxs
        obtain ⟨q1, q2⟩ := hq (i, q) (by simp)
        obtain ⟨t, ht⟩ := get_of_len hf.1 hv
        obtain ⟨k1, rts, k2, k3⟩ := getRow_sound r (hf.2 i v t hv ht) hxs
        have htv : FlatR s.cur s'.H (.tv (.sl q.2.2) xs) (.sl (tsz q.2.2) rts) := .tv (.sl xs rts k3.1 k3.2)
        obtain ⟨ts', h1, h2⟩ := fill_ok r rs _ vs' (ts.set i (.sl (tsz q.2.2) rts)) (fun q hq' => hq q (List.mem_cons_of_mem _ hq')) (hf.set i htv) h
        refine ⟨ts', h1, fun us hu => ?_⟩
        obtain ⟨h3, h4⟩ := h2 us hu
        have hback := map_set_back (frz s'.H (keepD ls)) (t1 := .sl (tsz q.2.2) rts) ht
        have hft : frz s'.H (keepD ls) t = .own q.1 (s'.H q.1).1 0 xs.length := by rw [k1, frz_own_keep q1]
        have hi : i < ts.length := (List.getElem?_eq_some_iff.1 ht).1
        have key : ∀ (u : V), FlatR cur1 (frzH s'.H (keepD ls)) u (.own q.1 (s'.H q.1).1 0 xs.length) → FlatL cur1 (frzH s'.H (keepD ls)) ((setRows rs us).set i u) (ts.map (frz s'.H (keepD ls))) := fun u hu => by
          rw [← hback, hft]
          exact h3.set i hu
        constructor
        · simp only [setRows]
          split
          · rename_i c2 ys hw
            refine key _ ?_
            obtain ⟨t2, ht2⟩ := get_of_len h3.1 hw
            have hf2 := h3.2 i _ t2 hw ht2
            rw [List.getElem?_map, List.getElem?_set, if_pos rfl, if_pos hi] at ht2
            simp only [Option.map_some, Option.some.injEq, frz] at ht2
            subst ht2
            cases hf2 with
            | tv hf2 =>
              obtain ⟨_, hl2, _⟩ := hf2.sl_inv rfl
              refine .ownA (Nat.le_of_eq q2.symm) fun _ => ⟨by rw [frzH_keep_gen q1, ← hl2, ← k3.1], fun e sz ts'' hr => ?_⟩
              rw [frzH_row q1 k2 k3] at hr
              cases hr
              exact hl2
          · exact key _ (.any _)
        · intro d p hm
          simp only [rowsO, List.mem_cons] at hm
          rcases hm with hm | hm
          · split at hm
            · rename_i c2 ys hw
              rw [Prod.mk.injEq] at hm
              obtain ⟨rfl, rfl⟩ := hm
              obtain ⟨t2, ht2⟩ := get_of_len h3.1 hw
              have hf2 := h3.2 i _ t2 hw ht2
              rw [List.getElem?_map, List.getElem?_set, if_pos rfl, if_pos hi] at ht2
              simp only [Option.map_some, Option.some.injEq, frz] at ht2
              subst ht2
              cases hf2 with
              | tv hf2 =>
                obtain ⟨hz, hl2, ht2⟩ := hf2.sl_inv rfl
                exact ⟨rts, by rw [← hz]; exact frzH_row q1 k2 k3, hl2, ht2⟩
            · rw [Prod.mk.injEq] at hm
              obtain ⟨rfl, rfl⟩ := hm
              trivial
          · exact h4 d p hm
      · cases h
    · cases h

theorem getObjs_mem {Hh : List (Nat × (Nat × VObj))} {orows : List (Nat × Nat × RowA)} : ∀ (l : List (Nat × Ty)) (h : HL (l.map (·.2))), getObjs Hh orows s l = some h → ∀ d p, (d, p) ∈ putObjs orows l h →
    ∃ d0 c v x, (d0, c) ∈ l ∧ (lkH s.H d0).2 = .cells v ∧ getObj Hh s (orowsOf orows d0) v c = some x ∧ (d, p) ∈ putO d0 (orowsOf orows d0) c x ∧ ∀ q ∈ putO d0 (orowsOf orows d0) c x, q ∈ putObjs orows l h
  | [], h, _, d, p, hm => by simp [putObjs] at hm
  | (a, c) :: l, h, hg, d, p, hm => by
    simp only [getObjs] at hg
    split at hg
    · rename_i v hv
      split at hg
      · rename_i x h' hx hh
        obtain rfl := Option.some.inj hg
        simp only [putObjs, List.mem_append] at hm
        rcases hm with hm | hm
        · exact ⟨a, c, v, x, by simp, hv, hx, hm, fun q hq => by simp only [putObjs, List.mem_append]; exact .inl hq⟩
        · obtain ⟨d0, c0, v0, x0, h1, h2, h3, h4, h5⟩ := getObjs_mem l h' hh d p hm
          exact ⟨d0, c0, v0, x0, by simp [h1], h2, h3, h4, fun q hq => by simp only [putObjs, List.mem_append]; exact .inr (h5 q hq)⟩
      · cases hg
    · cases hg
theorem putO_key {d : Nat} {rs : List (Nat × RowA)} {c : Ty} {x : den c} : ∃ p, (d, p) ∈ putO d rs c x := by
  unfold putO
  split
  · exact ⟨_, List.mem_singleton.2 rfl⟩
  · split
    · exact ⟨_, List.mem_cons_self⟩
    · exact ⟨_, List.mem_singleton.2 rfl⟩
theorem getObjs_key {Hh : List (Nat × (Nat × VObj))} {orows : List (Nat × Nat × RowA)} : ∀ (l : List (Nat × Ty)) (h : HL (l.map (·.2))), getObjs Hh orows s l = some h → ∀ d, l.any (fun q => Nat.beq q.1 d) = true → (∃ v, (lkH s.H d).2 = .cells v) ∧ ∃ p, (d, p) ∈ putObjs orows l h
  | [], h, hg, d, hd => by cases hd
  | (a, c) :: l, h, hg, d, hd => by
    simp only [getObjs] at hg
    split at hg
    · rename_i v hv
      split at hg
      · rename_i x h' hx hh
        obtain rfl := Option.some.inj hg
        have hany : ((a, c) :: l).any (fun q => Nat.beq q.1 d) = (Nat.beq a d || l.any fun q => Nat.beq q.1 d) := rfl
        rw [hany, Bool.or_eq_true] at hd
        rcases hd with hd | hd
        · have e := Nat.eq_of_beq_eq_true hd
          subst e
          refine ⟨⟨v, hv⟩, ?_⟩
          obtain ⟨p, hp⟩ := putO_key (d := a) (rs := orowsOf orows a) (c := c) (x := x)
          exact ⟨p, by simp only [putObjs, List.mem_append]; exact .inl hp⟩
        · obtain ⟨h1, p, h2⟩ := getObjs_key l h' hh d hd
          exact ⟨h1, p, by simp only [putObjs, List.mem_append]; exact .inr h2⟩
      · cases hg
    · cases hg

theorem putO_gen {d0 : Nat} {rs : List (Nat × RowA)} {c : Ty} {x : den c} {d : Nat} {p : Nat × VObj} (h : (d, p) ∈ putO d0 rs c x) : p.1 = 1 := by
  unfold putO at h
  split at h
  · simp only [List.mem_singleton, Prod.mk.injEq] at h; rw [h.2]
  · split at h
    · rcases List.mem_cons.1 h with h | h
      · rw [Prod.mk.injEq] at h; rw [h.2]
      · exact rowsO_gen _ _ d p h
    · simp only [List.mem_singleton, Prod.mk.injEq] at h; rw [h.2]

theorem putO_obj (r : Rel s s') {ls : List Nat} {cur1 : Nat → Nat} {rs : List (Nat × RowA)} {d0 : Nat} {v : V} {c : Ty} {x : den c} (hv : (lkH s.H d0).2 = .cells v) (h : getObj (hideH ls s.H) s rs v c = some x) (hq : ∀ q ∈ rs, q.2.1 ∈ ls ∧ cur1 q.2.1 = 1)
    {d : Nat} {p : Nat × VObj} (hm : (d, p) ∈ putO d0 rs c x) : ObjF cur1 (frzH s'.H (keepD ls)) p.2 (frzH s'.H (keepD ls) d).2 := by
  have ho := r.O d0
  rw [hv] at ho
  obtain ⟨t, ht, hf⟩ := ho
  have hcell : (frzH s'.H (keepD ls) d0).2 = .cells (frz s'.H (keepD ls) t) := by unfold frzH; rw [ht]; rfl
  unfold putO at hm
  split at hm
  · simp only [List.mem_singleton, Prod.mk.injEq] at hm
    obtain ⟨rfl, rfl⟩ := hm
    exact ⟨_, hcell, .of (castX_hide r ls h hf)⟩
  · rename_i q rs
    unfold getObj at h
    dsimp only at h
    split at h
    · rename_i si vs
      split at h
      · rename_i vs' hvs
        cases hf with
        | @node _ _ ts hl hp =>
          obtain ⟨ts', k1, k2⟩ := fill_ok r (q :: rs) vs vs' ts hq ⟨hl, hp⟩ hvs
          have htv := castX_hide r ls h (.node k1.1 k1.2)
          simp only [frz, frzL_eq] at htv hcell
          have hst : ∃ sj, c = .st sj := by
            unfold castX at h
            split at h
            · have := castTo_eq h
              cases this
              exact ⟨_, rfl⟩
            · cases h
          obtain ⟨sj, rfl⟩ := hst
          have hsj : si = sj := by
            unfold castX at h
            split at h
            · have := castTo_eq h
              cases this
              rfl
            · cases h
          subst hsj
          obtain ⟨hl2, hp2⟩ := htv.st_inv rfl
          obtain ⟨k3, k4⟩ := k2 ((parts si x).map fun (p : TV) => V.of p.1 p.2) ⟨by simp [hl2], fun i u t hu ht => by
            rw [List.getElem?_map] at hu
            obtain ⟨p, hp', rfl⟩ := Option.map_eq_some_iff.1 hu
            exact .of (hp2 i p t hp' ht)⟩
          simp only [List.mem_cons] at hm
          rcases hm with hm | hm
          · rw [Prod.mk.injEq] at hm
            obtain ⟨rfl, rfl⟩ := hm
            exact ⟨_, hcell, .node k3.1 k3.2⟩
          · exact k4 d p hm
      · cases h
    · cases h

theorem rowAt_mem : ∀ {rows : List (Nat × RowA)} {t : Nat} {r : RowA}, rowAt rows t = some r → r.1 ∈ rows.map (·.2.1)
  | (a, q) :: l, t, r, h => by
    unfold rowAt at h
    cases hb : Nat.beq a t with
    | true => rw [hb] at h; obtain rfl := Option.some.inj h; simp
    | false => rw [hb] at h; have := rowAt_mem (rows := l) h; simp only [List.map_cons, List.mem_cons]; exact .inr this
theorem orowsOf_mem : ∀ {l : List (Nat × Nat × RowA)} {o : Nat} {q : Nat × RowA}, q ∈ orowsOf l o → q.2.1 ∈ l.map (·.2.2.1)
  | (d, q) :: l, o, q', h => by
    unfold orowsOf at h
    cases hb : Nat.beq d o with
    | true =>
      rw [hb] at h
      simp only [cond_true, List.mem_cons] at h
      rcases h with rfl | h
      · simp
      · have := orowsOf_mem h; simp only [List.map_cons, List.mem_cons]; exact .inr this
    | false => rw [hb] at h; have := orowsOf_mem (l := l) h; simp only [List.map_cons, List.mem_cons]; exact .inr this

theorem getB_rel {a : Ann} (hok : a.ok = true) (r : Rel s s') {x : a.X} (h : getB a s = some x) : Rel (putA a x) (frzSt s' (keepD a.labs)) := by
  unfold getB at h
  split at h
  · rename_i hp
    split at h
    · rename_i u v hu hv
      obtain rfl := Option.some.inj h
      have hgen : ∀ d p, (d, p) ∈ (putA a (u, v)).H → p.1 = 1 := fun d p hm => by
        rcases putRows_mem a.vals u _ hu d p hm with hm | ⟨t, c, x, hx, hm⟩
        · obtain ⟨d0, c, w, x, _, h2, h3, h4, _⟩ := getObjs_mem a.objs v hv d p hm
          exact putO_gen h4
        · exact putRow_gen hm
      have hkey : ∀ d p, (d, p) ∈ (putA a (u, v)).H → (putA a (u, v)).cur d = 1 := fun d p hm => by
        show (lkH (putA a (u, v)).H d).1 = 1
        rcases lkH_entry (putA a (u, v)).H d with ⟨_, h⟩ | h
        · exact absurd hm (h p)
        · exact hgen d _ h
      have hrow : ∀ t r, rowAt a.rows t = some r → r.1 ∈ a.labs := fun t r h => by
        unfold Ann.labs; exact List.mem_append.2 (.inl (rowAt_mem h))
      have one : ∀ d v0 t0, ptrTo s d v0 = true → a.objs.any (fun q => Nat.beq q.1 d) = true → FlatR s.cur s'.H v0 t0 → FlatR (putA a (u, v)).cur (frzH s'.H (keepD a.labs)) (.vptr d 1 [] 0) (frz s'.H (keepD a.labs) t0) := by
        intro d v0 t0 h1 h2 hf
        unfold ptrTo at h1
        split at h1
        · rename_i d' g p off
          simp only [Bool.and_eq_true] at h1
          obtain ⟨q1, q2, q3, q4⟩ := h1
          have q1 := Nat.eq_of_beq_eq_true q1
          have q2 := Nat.eq_of_beq_eq_true q2
          have q4 := Nat.eq_of_beq_eq_true q4
          have q3 : p = [] := by simpa using q3
          subst q1 q3 q4
          obtain ⟨⟨v0, hv0⟩, p0, hp0⟩ := getObjs_key a.objs v hv d' h2
          have ho := r.O d'
          rw [hv0] at ho
          obtain ⟨tc, htc, _⟩ := ho
          have hk := hkey d' p0 (putRows_keep a.vals u _ hp0)
          cases hf with
          | vptr hg hh =>
            refine .vptr (by rw [hk]; exact Nat.le_refl _) fun _ => ?_
            rw [hh q2]
            have e1 : (frzH s'.H (keepD a.labs) d').1 = (s'.H d').1 := by unfold frzH; rw [htc]
            rw [e1]
            rfl
        · cases h1
      have many : ∀ (ds : List Nat) (vs : List V) (ts : List Tr), ptrsTo s ds vs = true → (∀ d ∈ ds, a.objs.any (fun q => Nat.beq q.1 d) = true) → FlatL s.cur s'.H vs ts → FlatL (putA a (u, v)).cur (frzH s'.H (keepD a.labs)) (ds.map fun d => .vptr d 1 [] 0) (ts.map (frz s'.H (keepD a.labs))) := by
        intro ds
        induction ds with
        | nil =>
          intro vs ts h1 _ hf
          cases vs with
          | nil =>
            have : ts = [] := by simpa using hf.1
            subst this
            exact ⟨rfl, fun i v t hv => by simp at hv⟩
          | cons _ _ => cases h1
        | cons d ds ih =>
          intro vs ts h1 h2 hf
          cases vs with
          | nil => cases h1
          | cons v0 vs =>
            cases ts with
            | nil => have := hf.1; simp at this
            | cons t0 ts =>
              simp only [ptrsTo, Bool.and_eq_true] at h1
              have k0 := one d v0 t0 h1.1 (h2 d (by simp)) (hf.2 0 v0 t0 rfl rfl)
              have ks := ih vs ts h1.2 (fun d hd => h2 d (by simp [hd])) ⟨by simpa using hf.1, fun i v t hv ht => hf.2 (i + 1) v t (by simpa using hv) (by simpa using ht)⟩
              refine ⟨by simp only [List.map_cons, List.length_cons, ks.1], fun i v t hv ht => ?_⟩
              cases i with
              | zero => simp at hv ht; subst hv ht; exact k0
              | succ i => exact ks.2 i v t (by simpa using hv) (by simpa using ht)
      refine rel_of (fun t w hm => ?_) (fun d p hm => ?_) (r.G.frz _)
      · rcases getVals_mem a.vals u (putPtrs a.ptrs ++ putClos a.clos) (putObjs a.orows a.objs v) hu t w hm with hm | ⟨⟨c, x, hx, rfl⟩, hk⟩
        · have hptr : ∀ (l : List (Nat × Nat)), getPtrs s l = true → (∀ p ∈ l, a.objs.any (fun q => Nat.beq q.1 p.2) = true) → (t, w) ∈ putPtrs l → FlatR (putA a (u, v)).cur (frzH s'.H (keepD a.labs)) w (frz s'.H (keepD a.labs) (s'.T t)) := by
            intro l
            induction l with
            | nil => intro _ _ hm; simp [putPtrs] at hm
            | cons p l ih =>
              obtain ⟨j, d⟩ := p
              intro h1 h2 hm
              simp only [getPtrs, Bool.and_eq_true] at h1
              obtain ⟨h1, h3⟩ := h1
              simp only [putPtrs, List.mem_cons] at hm
              rcases hm with hm | hm
              · rw [Prod.mk.injEq] at hm
                obtain ⟨rfl, rfl⟩ := hm
                refine one d (lkT s.T t) _ ?_ (h2 (t, d) (by simp)) (r.T t)
                unfold ptrTo
                split at h1
                · rename_i d' g p off hl
                  exact h1
                · cases h1
              · exact ih h3 (fun p hp => h2 p (by simp [hp])) hm
          have hclo : ∀ (l : List (Nat × FuncId × List Nat)), getClos s l = true → (∀ q ∈ l, ∀ d ∈ q.2.2, a.objs.any (fun o => Nat.beq o.1 d) = true) → (t, w) ∈ putClos l → FlatR (putA a (u, v)).cur (frzH s'.H (keepD a.labs)) w (frz s'.H (keepD a.labs) (s'.T t)) := by
            intro l
            induction l with
            | nil => intro _ _ hm; simp [putClos] at hm
            | cons q l ih =>
              obtain ⟨j, f, ds⟩ := q
              intro h1 h2 hm
              simp only [getClos, Bool.and_eq_true] at h1
              obtain ⟨h1, h3⟩ := h1
              simp only [putClos, List.mem_cons] at hm
              rcases hm with hm | hm
              · rw [Prod.mk.injEq] at hm
                obtain ⟨rfl, rfl⟩ := hm
                split at h1
                · rename_i g vs hl
                  simp only [Bool.and_eq_true] at h1
                  have q1 := Nat.eq_of_beq_eq_true h1.1
                  subst q1
                  have hf := r.T t
                  rw [hl] at hf
                  generalize s'.T t = tt at hf
                  cases hf with
                  | @clo _ _ ts hl0 hp0 =>
                    have := many ds vs ts h1.2 (h2 (t, g, ds) (by simp)) ⟨hl0, hp0⟩
                    show FlatR _ _ _ (.clo g (frzL s'.H (keepD a.labs) ts))
                    rw [frzL_eq]
                    exact .clo this.1 this.2
                · cases h1
              · exact ih h3 (fun q hq => h2 q (by simp [hq])) hm
          simp only [Ann.ok, Bool.and_eq_true, List.all_eq_true] at hok
          simp only [Bool.and_eq_true] at hp
          rcases List.mem_append.1 hm with hm | hm
          · exact hptr a.ptrs hp.1 hok.1.1 hm
          · exact hclo a.clos hp.2 hok.2 hm
        · refine getVal_flat r (fun q hq => ⟨hrow t q hq, ?_⟩) hx
          obtain ⟨p, hp'⟩ := hk q hq
          exact hkey _ _ hp'
      · rcases putRows_mem a.vals u _ hu d p hm with hm' | ⟨t, c, x, hx, hm'⟩
        · obtain ⟨d0, c, w, x, _, h2, h3, h4, h5⟩ := getObjs_mem a.objs v hv d p hm'
          refine putO_obj r h2 h3 (fun q hq => ⟨by unfold Ann.labs; exact List.mem_append.2 (.inr (orowsOf_mem hq)), ?_⟩) h4
          have hne : orowsOf a.orows d0 ≠ [] := fun e => by rw [e] at hq; simp at hq
          cases hrs : orowsOf a.orows d0 with
          | nil => exact absurd hrs hne
          | cons q0 rs =>
            rw [hrs] at h3 h5 hq
            have hst : ∃ si, c = .st si := by
              unfold getObj at h3
              dsimp only at h3
              split at h3
              · split at h3
                · unfold castX at h3
                  split at h3
                  · have := castTo_eq h3
                    cases this
                    exact ⟨_, rfl⟩
                  · cases h3
                · cases h3
              · cases h3
            obtain ⟨si, rfl⟩ := hst
            obtain ⟨p1, hp1⟩ := rowsO_key (q0 :: rs) ((parts si x).map fun (p : TV) => V.of p.1 p.2) q hq
            exact hkey _ p1 (putRows_keep a.vals u _ (h5 _ (by unfold putO; exact List.mem_cons_of_mem _ hp1)))
        · exact putRow_obj r (fun q hq => hrow t q hq) hx hm'
    · cases h
  · cases h

theorem getA_ok {a : Ann} (hok : a.ok = true) (r : Rel s s') {x : a.X} (h : getA a s = some x) : ∃ s2', Rel (putA a x) s2' ∧ Turns s' s2' := by
  obtain ⟨s1, r1, t1⟩ := norm_ok hok r
  exact ⟨_, getB_rel hok r1 h, t1.trans (.freeze s1 _)⟩
end

/-- How a round ends. -/
inductive Out (X E F R : Type) where
  | next (x : X)
  | brk (e : E)
  | brk2 (e : F)
  | ret (r : R)

/-- So many rounds. -/
def iterO {X E F R : Type} (b : X → Option (Out X E F R)) : Nat → X → Option (Out X E F R)
  | 0, _ => none
  | n + 1, x => match b x with
    | some (.next x') => iterO b n x'
    | r => r

/-- What a loop is told by. -/
structure LAnn where
  head : Ann
  id1 : Nat
  out1 : Ann
  id2 : Nat
  out2 : Ann
  ret : Ann

abbrev LAnn.O (a : LAnn) : Type := Out a.head.X a.out1.X a.out2.X a.ret.X

def endL (a : LAnn) (e : Exit) (s : VSt) : Option a.O :=
  match e with
  | .normal => match getA a.head s with
    | some x => some (.next x)
    | none => none
  | .exit i => bif Nat.beq i a.id1 then (match getA a.out1 s with
      | some x => some (.brk x)
      | none => none) else bif Nat.beq i a.id2 then (match getA a.out2 s with
      | some x => some (.brk2 x)
      | none => none) else none
  | .ret => match getA a.ret s with
    | some x => some (.ret x)
    | none => none
  | _ => none

def finL (a : LAnn) {A : Type} (y : a.O) (k : Exit → VSt → Option A) : Option A :=
  match y with
  | .next _ => none
  | .brk e => k (.exit a.id1) (putA a.out1 e)
  | .brk2 e => k (.exit a.id2) (putA a.out2 e)
  | .ret r => k .ret (putA a.ret r)

def finSL (a : LAnn) (y : a.O) : Exit × VSt :=
  match y with
  | .next x => (.normal, putA a.head x)
  | .brk e => (.exit a.id1, putA a.out1 e)
  | .brk2 e => (.exit a.id2, putA a.out2 e)
  | .ret r => (.ret, putA a.ret r)

/-- A loop as a piece of code that is told once. -/
def segL (a : LAnn) (run : a.head.X → Option a.O) : Seg := ⟨a.head.X, a.O, getA a.head, run, finL a, finSL a⟩

def LAnn.ok (a : LAnn) : Bool := a.head.ok && (a.out1.ok && (a.out2.ok && a.ret.ok))

/-- What a round of a loop computes. -/
def evB (Θ : Tab) (tyOf : TypeId → Option Ty) (C : FuncId → Option CE) (nt : Nat) (base : Nat → Nat) (J : Nat → Option Tmp) (G : Nat → Option Seg) (N : Nat) (a : LAnn) (c : Code) (x : a.head.X) : Option a.O :=
  evC Θ tyOf C nt base J G N c (putA a.head x) (endL a)

section
variable {P : Program} {Θ : Tab} {tyOf : TypeId → Option Ty} {C : FuncId → Option CE} {nt : Nat} {base : Nat → Nat} {J : Nat → Option Tmp} {G : Nat → Option Seg} {N : Nat}

theorem endL_ok {a : LAnn} (hok : a.ok = true) {e : Exit} {s : VSt} {s' : St} {o : a.O} (r : Rel s s') (h : endL a e s = some o) : e = (finSL a o).1 ∧ ∃ s2', Rel (finSL a o).2 s2' ∧ Turns s' s2' := by
  simp only [LAnn.ok, Bool.and_eq_true] at hok
  obtain ⟨h1, h2, h3, h4⟩ := hok
  unfold endL at h
  cases e with
  | normal =>
    dsimp only at h
    split at h
    · rename_i x hx; obtain rfl := Option.some.inj h; exact ⟨rfl, getA_ok h1 r hx⟩
    · cases h
  | ret =>
    dsimp only at h
    split at h
    · rename_i x hx; obtain rfl := Option.some.inj h; exact ⟨rfl, getA_ok h4 r hx⟩
    · cases h
  | exit i =>
    dsimp only at h
    cases hb : Nat.beq i a.id1 with
    | true =>
      rw [hb] at h
      have hi := Nat.eq_of_beq_eq_true hb
      subst hi
      simp only [cond_true] at h
      split at h
      · rename_i x hx; obtain rfl := Option.some.inj h; exact ⟨rfl, getA_ok h2 r hx⟩
      · cases h
    | false =>
      rw [hb] at h
      simp only [cond_false] at h
      have hq := bif_some h
      clear h
      obtain ⟨hb2, h⟩ := hq
      have hi := Nat.eq_of_beq_eq_true hb2
      subst hi
      split at h
      · rename_i x hx; obtain rfl := Option.some.inj h; exact ⟨rfl, getA_ok h3 r hx⟩
      · cases h
  | _ => cases h

theorem segL_ok (hΘ : TabOK P Θ) (hm : P.follows .mixedOrders = true) (hty : TypOK Θ tyOf) (hC : ConsOK P C) {c : Code} (hG : SegsOK P nt G c) {a : LAnn} (hok : a.ok = true) {run : a.head.X → Option a.O} {body : a.head.X → Option a.O}
    (hb : ∀ x, evB Θ tyOf C nt base J G N a c x = body x) (hrun : ∀ x y, run x = some y → ∃ n, iterO body n x = some y) : SegOK P nt (.loop c) (segL a run) := by
  refine ⟨fun A y k v h => ?_, fun s s' x y r hx hy => ?_⟩
  · cases y with
    | next x => cases h
    | _ => exact h
  · have hhead : a.head.ok = true := by simp only [LAnn.ok, Bool.and_eq_true] at hok; exact hok.1
    obtain ⟨n, hn⟩ := hrun x y hy
    obtain ⟨s0', r0, t0⟩ := getA_ok hhead r hx
    intro M0 M act gm0
    refine wp_loop_rounds n ?_
    obtain ⟨M1, hw1, gm⟩ := t0 M0 nt M act gm0
    have key : ∀ n x s' (M : Mem) (act : Act), Rel (putA a.head x) s' → iterO body n x = some y → Gam M0 nt s' M act → Code.rounds P c (fun e a' w' => ∃ s2' M', M'.w = w' ∧ (e = (finSL a y).1 ∧ Rel (finSL a y).2 s2') ∧ Gam M0 nt s2' M' a') n act M.w := by
      intro n
      induction n with
      | zero => intro x s' M act _ h; cases h
      | succ n ih =>
        intro x s' M act r h gm
        rw [rounds_succ]
        unfold iterO at h
        cases hbx : body x with
        | none => rw [hbx] at h; cases h
        | some o =>
          rw [hbx] at h
          have hw := evC_sound (J := J) (N := N) (base := base) hΘ hm hty hC c _ s' (endL a) o hG r ((hb x).trans hbx) (K := fun e s2' => e = (finSL a o).1 ∧ ∃ s3', Rel (finSL a o).2 s3' ∧ Turns s2' s3') fun e s2 s2' r2 h2 => endL_ok hok r2 h2
          refine wp_mono (wpcX_sound hΘ hm c _ s' hw M0 M act gm) ?_
          rintro e a' w' ⟨s3', M3', rfl, ⟨he, s2', r2, t2⟩, g3'⟩
          obtain ⟨M', hw', g'⟩ := t2 M0 nt M3' a' g3'
          rw [← hw']
          cases o with
          | next x' =>
            subst he
            exact ih x' s2' M' a' r2 h g'
          | brk z =>
            obtain rfl := Option.some.inj h
            subst he
            exact ⟨s2', M', rfl, ⟨rfl, r2⟩, g'⟩
          | brk2 z =>
            obtain rfl := Option.some.inj h
            subst he
            exact ⟨s2', M', rfl, ⟨rfl, r2⟩, g'⟩
          | ret z =>
            obtain rfl := Option.some.inj h
            subst he
            exact ⟨s2', M', rfl, ⟨rfl, r2⟩, g'⟩
    rw [← hw1]
    exact key n x s0' M1 act r0 hn gm

def segsList : Code → List (Nat × Code)
  | .seq a b => segsList a ++ segsList b
  | .cond _ a b => segsList a ++ segsList b
  | .block _ c => segsList c
  | .scope c => segsList c
  | .loop c => match fstReg c with
    | some i => (i, c) :: segsList c
    | none => segsList c
  | _ => []
def lookL : List (Nat × Code) → Nat → Code
  | [], _ => .skip
  | (i, c) :: l, k => bif Nat.beq i k then c else lookL l k
def loopBody (c : Code) (k : Nat) : Code := lookL (segsList c) k
def uniqK : List (Nat × Code) → Bool
  | [] => true
  | (i, _) :: l => (l.all fun p => !Nat.beq p.1 i) && uniqK l

theorem lookL_uniq : ∀ (l : List (Nat × Code)), uniqK l = true → ∀ p ∈ l, lookL l p.1 = p.2
  | (i, c) :: l, hu, p, hp => by
    simp only [uniqK, Bool.and_eq_true, List.all_eq_true] at hu
    rcases List.mem_cons.1 hp with rfl | hp
    · simp [lookL]
    · have := hu.1 p hp
      have hb : Nat.beq i p.1 = false := by
        rw [Bool.eq_false_iff]; intro e
        have e := Nat.eq_of_beq_eq_true e
        rw [e] at this
        simp at this
      simp only [lookL, hb, cond_false]
      exact lookL_uniq l hu.2 p hp

theorem segsOK_sub {P : Program} {nt : Nat} {G : Nat → Option Seg} : ∀ c : Code, (∀ p ∈ segsList c, ∀ g, G p.1 = some g → SegOK P nt (.loop p.2) g) → SegsOK P nt G c
  | .seq a b, h => ⟨segsOK_sub a fun p hp => h p (by simp [segsList, hp]), segsOK_sub b fun p hp => h p (by simp [segsList, hp])⟩
  | .cond _ a b, h => ⟨segsOK_sub a fun p hp => h p (by simp [segsList, hp]), segsOK_sub b fun p hp => h p (by simp [segsList, hp])⟩
  | .block _ c, h => segsOK_sub c h
  | .scope c, h => segsOK_sub c h
  | .loop c, h => by
    refine ⟨fun i g hi hg => ?_, segsOK_sub c fun p hp => ?_⟩
    · exact h (i, c) (by simp [segsList, hi]) g hg
    · refine h p ?_
      simp only [segsList]
      split
      · exact List.mem_cons_of_mem _ hp
      · exact hp
  | .skip, _ => trivial
  | .label _, _ => trivial
  | .ret, _ => trivial
  | .exit _, _ => trivial
  | .region _ _ _, _ => trivial
  | .rangeFunc _ _ _ _, _ => trivial
  | .goto _, _ => trivial
  | .refuse _, _ => trivial

def glist : List (Nat × Seg) → Nat → Option Seg
  | [], _ => none
  | (i, g) :: l, k => bif Nat.beq i k then some g else glist l k

theorem glist_mem : ∀ {l : List (Nat × Seg)} {k : Nat} {g : Seg}, glist l k = some g → (k, g) ∈ l
  | (i, s) :: l, k, g, h => by
    unfold glist at h
    cases hb : Nat.beq i k with
    | true =>
      rw [hb] at h
      have e := Nat.eq_of_beq_eq_true hb
      subst e
      obtain rfl := Option.some.inj h
      simp
    | false => rw [hb] at h; exact List.mem_cons_of_mem _ (glist_mem h)

def SegsAll (P : Program) (nt : Nat) (code : Code) : List (Nat × Seg) → Prop
  | [] => True
  | q :: l => SegOK P nt (.loop (loopBody code q.1)) q.2 ∧ SegsAll P nt code l
theorem SegsAll.mem {P : Program} {nt : Nat} {code : Code} : ∀ {l : List (Nat × Seg)}, SegsAll P nt code l → ∀ q ∈ l, SegOK P nt (.loop (loopBody code q.1)) q.2
  | q :: l, h, p, hp => by
    rcases List.mem_cons.1 hp with rfl | hp
    · exact h.1
    · exact SegsAll.mem h.2 p hp

theorem segsOK_g {P : Program} {nt : Nat} {code : Code} {l : List (Nat × Seg)} (hu : uniqK (segsList code) = true) (h : SegsAll P nt code l) : SegsOK P nt (glist l) code :=
  segsOK_sub code fun p hp g hg => by
    have := h.mem (p.1, g) (glist_mem hg)
    have e : loopBody code p.1 = p.2 := lookL_uniq _ hu p hp
    simp only at this
    rwa [e] at this

theorem fstReg_look {code : Code} {k : Nat} {c : Code} (h : loopBody code k = c) : loopBody code k = c := h
/-- The segments within a loop's body are those of the whole. -/
theorem segsOK_in {P : Program} {nt : Nat} {code : Code} {G : Nat → Option Seg} (h : SegsOK P nt G code) (k : Nat) : SegsOK P nt G (loopBody code k) := by
  have key : ∀ (c : Code), SegsOK P nt G c → ∀ p ∈ segsList c, SegsOK P nt G p.2 := by
    intro c
    induction c with
    | seq a b iha ihb =>
      intro h p hp
      simp only [segsList, List.mem_append] at hp
      rcases hp with hp | hp
      · exact iha h.1 p hp
      · exact ihb h.2 p hp
    | cond _ a b iha ihb =>
      intro h p hp
      simp only [segsList, List.mem_append] at hp
      rcases hp with hp | hp
      · exact iha h.1 p hp
      · exact ihb h.2 p hp
    | block _ c ih => intro h p hp; exact ih h p hp
    | scope c ih => intro h p hp; exact ih h p hp
    | loop c ih =>
      intro h p hp
      simp only [segsList] at hp
      split at hp
      · rcases List.mem_cons.1 hp with rfl | hp
        · exact h.2
        · exact ih h.2 p hp
      · exact ih h.2 p hp
    | _ => intro h p hp; simp [segsList] at hp
  have look : ∀ (l : List (Nat × Code)), (∀ p ∈ l, SegsOK P nt G p.2) → SegsOK P nt G (lookL l k) := by
    intro l
    induction l with
    | nil => intro _; trivial
    | cons p l ih =>
      obtain ⟨i, c⟩ := p
      intro hl
      simp only [lookL]
      cases Nat.beq i k with
      | true => exact hl (i, c) (by simp)
      | false => exact ih fun p hp => hl p (by simp [hp])
  exact look _ (key code h)
end
end Go.Proofs.Ytnonimnhninafaa.Ab
