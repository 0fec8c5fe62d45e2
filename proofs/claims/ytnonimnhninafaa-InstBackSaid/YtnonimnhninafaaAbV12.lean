/- Functions on typed values. -/
import Derived.Test.YtnonimnhninafaaAbV11
namespace Go.Proofs.Ytnonimnhninafaa.Ab
open Go

theorem CallSem.seal {P : Program} {f : FuncId} {args : List Tr} {R : Tr → Heap → Prop} {t : Tr} (h : CallSem P f args hemp R) (hlf : t.lf = true)
    (hR : ∀ r H', R r H' → ∀ (M : Mem) v, M.H = H' → MemOK M → VR M r v → VR (M.frozen fun _ => true) t v) : ACall P f args fun r _ => r = t := by
  refine ⟨h.1, fun M vs hH ok hs hv => ?_⟩
  refine (h.2 M vs hH ok hs hv).mono ?_
  rintro e w' ⟨v, r, M1, rfl, rfl, hr, ok1, fr1, hm1, hv1⟩
  let M1f : Mem := M1.frozen fun _ => true
  let M' : Mem := ⟨M1.w, M1f.Im, M.β, hemp⟩
  have hdead : ∀ d, ¬ Live M' d := fun d hl => by simp [M', Live, hemp] at hl
  refine ⟨v, t, M', rfl, rfl, rfl, memOK_bare _ _ _ (frozen_lt ok1 _), ?_, ?_, ?_⟩
  · refine ⟨fr1.os, fr1.tape, fr1.output, fr1.size, fr1.blk, fun d b K hl _ => absurd hl (hdead d), fun b hb => .inl (fr1.im0 b hb), fun b hb => ?_⟩
    rcases hb with hb | ⟨d, K, e, sz, xs, _, hr', hb⟩
    · exact fr1.im1 b hb
    · exact .inr (fr1.own d b K (by unfold Live; rw [hr']; simp) hb)
  · refine ⟨fun b hb => .inl (hm1.im b hb), fun b hb => hm1.blk b hb, fun d => ?_, fun d _ => ⟨rfl, ?_⟩⟩
    · rw [hH]; exact Nat.le_refl _
    · intro e sz xs hx
      simp [M', hemp] at hx
  · exact VR.lf_move (M := M1f) (M1 := M') rfl (fun _ h => h) (hR r M1.H hr M1 v rfl ok1 hv1) hlf

def argsV : Nat → (cs : List Ty) → HL cs → List (Nat × V)
  | _, [], _ => []
  | n, c :: cs, h => (n, V.of c h.1) :: argsV (n + 1) cs h.2

def resV (Θ : Tab) (s : VSt) : ResultVar → Option V
  | .tmp t => some (rdV s.T (.tmp t))
  | .cell a t => match vLoad Θ s t (lkT s.T a) with
    | some (g, e) => bif g then some e.val else none
    | none => none
def resLV (Θ : Tab) (s : VSt) : List ResultVar → Option (List V)
  | [] => some []
  | r :: rs => match resV Θ s r, resLV Θ s rs with
    | some x, some xs => some (x :: xs)
    | _, _ => none

def finF (Θ : Tab) (rs : List ResultVar) (rc : List Ty) (e : Exit) (s : VSt) : Option (HL rc) :=
  match e with
  | .normal => match resLV Θ s rs with
    | some vs => castXL s.H vs rc
    | none => none
  | .ret => match resLV Θ s rs with
    | some vs => castXL s.H vs rc
    | none => none
  | _ => none

/-- What a body computes. -/
def evF (Θ : Tab) (tyOf : TypeId → Option Ty) (C : FuncId → Option Con) (nt : Nat) (J : Nat → Option Tmp) (G : Nat → Option Seg) (N : Nat) (c : Code) (rs : List ResultVar) (ps rc : List Ty) (x : HL ps) : Option (HL rc) :=
  evC Θ tyOf C nt 0 J G N c ⟨argsV 0 ps x, []⟩ (finF Θ rs rc)

section
variable {P : Program} {Θ : Tab} {tyOf : TypeId → Option Ty} {s : VSt} {s' : St}

theorem argsV_rel {H : Heap} {cur : Nat → Nat} : ∀ (n : Nat) (cs : List Ty) (h : HL cs) (ts : List Tr), ts.length = (hparts cs h).length → (∀ (i : Nat) p t, (hparts cs h)[i]? = some p → ts[i]? = some t → TVR p.1 p.2 t) →
    ∀ j, FlatR cur H (lkT (argsV n cs h) j) (if n ≤ j then ts.getD (j - n) .any else .any)
  | n, [], h, ts, hl, ht, j => by
    simp only [argsV, lkT]
    exact .any _
  | n, c :: cs, h, ts, hl, ht, j => by
    cases ts with
    | nil => simp [hparts] at hl
    | cons t ts =>
      simp only [argsV, lkT_cons]
      have ih := argsV_rel (H := H) (cur := cur) (n + 1) cs h.2 ts (by simpa [hparts] using hl) (fun i p t hp ht' => ht (i + 1) p t (by simpa [hparts] using hp) (by simpa using ht')) j
      by_cases hj : j = n
      · subst hj
        rw [if_pos rfl, if_pos (Nat.le_refl _), Nat.sub_self]
        exact .of (ht 0 ⟨c, h.1⟩ t rfl rfl)
      · rw [if_neg hj]
        by_cases hlt : n ≤ j
        · rw [if_pos (by omega)] at ih
          rw [if_pos hlt]
          have e : j - n = (j - (n + 1)) + 1 := by omega
          rw [e, List.getD_cons_succ]
          exact ih
        · rw [if_neg (by omega)] at ih
          rw [if_neg hlt]
          exact ih

theorem resV_sound (r : Rel s s') {rv : ResultVar} {v : V} (h : resV Θ s rv = some v) : ∃ t, resT Θ s' rv = some t ∧ FlatR s.cur s'.H v t := by
  cases rv with
  | tmp t =>
    obtain rfl := Option.some.inj h
    exact ⟨_, rfl, rdV_sound r (.tmp t)⟩
  | cell a t =>
    unfold resV at h
    dsimp only at h
    split at h
    · rename_i g e he
      obtain ⟨hg, h⟩ := bif_some h
      subst hg
      obtain rfl := Option.some.inj h
      obtain ⟨f, h1, h2⟩ := vLoad_sound r (r.T a) he
      obtain ⟨u, hu, rfl⟩ := Option.map_eq_some_iff.1 h1
      refine ⟨u, hu, ?_⟩
      unfold EffF at h2
      split at h2
      · exact h2
      · rename_i hn; simp at hn
      · exact h2.elim
    · cases h

theorem resLV_sound (r : Rel s s') : ∀ {rs : List ResultVar} {vs : List V}, resLV Θ s rs = some vs → ∃ ts, resL Θ s' rs = some ts ∧ FlatL s.cur s'.H vs ts
  | [], vs, h => by
    obtain rfl := Option.some.inj h
    exact ⟨[], rfl, rfl, fun i v t hv => by simp at hv⟩
  | rv :: rs, vs, h => by
    simp only [resLV] at h
    split at h
    · rename_i x xs hx hxs
      obtain rfl := Option.some.inj h
      obtain ⟨t, h1, h2⟩ := resV_sound r hx
      obtain ⟨ts, h3, h4⟩ := resLV_sound r hxs
      refine ⟨t :: ts, by simp only [resL, h1, h3], by simp [h4.1], fun i v u hv hu => ?_⟩
      cases i with
      | zero => simp at hv hu; subst hv hu; exact h2
      | succ i => exact h4.2 i v u (by simpa using hv) (by simpa using hu)
    · cases h

theorem embR_of {rc : List Ty} (hd : dOKs rc = true) {y : HL rc} {ts : List Tr} {M : Mem} {v : Value} (hl : ts.length = (hparts rc y).length) (ht : ∀ (i : Nat) p t, (hparts rc y)[i]? = some p → ts[i]? = some t → TVR p.1 p.2 t)
    (hv : VR M (retOf ts) v) : VR M (embR rc y) v := by
  obtain ⟨k1, k2⟩ := embs_tvr hd y
  have hlw : ∀ (i : Nat) t t', ts[i]? = some t → (embs rc y)[i]? = some t' → LW t t' := fun i t t' h1 h2 => by
    obtain ⟨p, hp⟩ := get_of_len (ts := hparts rc y) hl.symm h1
    obtain ⟨_, hdp, rfl⟩ := k2 i p t' hp h2
    exact (ht i p t hp h1).lw hdp
  have hlen : (embs rc y).length = ts.length := by rw [k1, hl]
  unfold embR
  generalize embs rc y = us at hlw hlen
  have tup : VR M (.tup ts) v → VR M (.tup us) v := fun hv => by
    obtain ⟨vs, rfl, hs, hvs⟩ := hv.tup_inv
    refine .tup (by rw [hs, hlen]) fun i x hx => ?_
    obtain ⟨t, htt⟩ := get_of_len (ts := ts) hlen.symm hx
    exact hlw i t x htt hx _ _ (hvs i t htt)
  match ts, us, hlen with
  | [], [], _ => exact tup hv
  | [t], [u], _ => exact hlw 0 t u rfl rfl _ _ hv
  | _ :: _ :: _, _ :: _ :: _, _ => exact tup hv

theorem frz_ret (H : Heap) (D : Nat → Bool) (ts : List Tr) : frz H D (retOf ts) = retOf (ts.map (frz H D)) := by
  match ts with
  | [] => simp [retOf, frz, frzL]
  | [t] => rfl
  | a :: b :: ts =>
    simp only [retOf, frz, List.map_cons, frzL_eq]

/-- A function's contract, out of what its body computes. -/
theorem evF_ok (hΘ : TabOK P Θ) (hm : P.follows .mixedOrders = true) (hty : TypOK Θ tyOf) {C : FuncId → Option Con} (hC : ConsOK P C) {J : Nat → Option Tmp} {G : Nat → Option Seg} {N nt : Nat} {f : FuncId} {fn : Func} {c : Code} {rs : List ResultVar} {ps rc : List Ty}
    (hG : SegsOK P nt G c) (hd : dOKs ps = true) (hr : dOKs rc = true) (hf : P.funcs[f]? = some fn) (hb : fn.body = some c) (hn : fn.ntmps = nt) (hrs : fn.results.toList = rs) (hent : Enters P f) (hl : ps.length ≤ nt)
    {m : HL ps → Option (HL rc)} (h : ∀ x, evF Θ tyOf C nt J G N c rs ps rc x = m x) : ConOK P f ⟨ps, rc, m⟩ := by
  refine ⟨hd, hr, fun x y hxy => ?_⟩
  have hlen : (embs ps x).length ≤ nt := by
    rw [(embs_tvr hd x).1, ← List.length_map (f := (·.1)), hparts_tys]; exact hl
  refine CallSem.seal (R := fun r H' => ∃ ts : List Tr, r = retOf ts ∧ (ts.map (frz H' fun _ => true)).length = (hparts rc y).length ∧ ∀ (i : Nat) p t, (hparts rc y)[i]? = some p → (ts.map (frz H' fun _ => true))[i]? = some t → TVR p.1 p.2 t)
    (walk hΘ hm hf hb hn hrs hent hlen 0 ?_) (retOf_lf (embs_lf hr y)) ?_
  · have hrel : Rel ⟨argsV 0 ps x, []⟩ ⟨argT (embs ps x), hemp⟩ := by
      refine ⟨fun t => ?_, fun d => trivial⟩
      obtain ⟨k1, k2⟩ := embs_tvr hd x
      have := argsV_rel (H := hemp) (cur := VSt.cur ⟨argsV 0 ps x, []⟩) 0 ps x (embs ps x) k1 (fun i p t hp ht => (k2 i p t hp ht).1) t
      simpa [argT] using this
    refine evC_sound (J := J) (N := N) hΘ hm hty hC c _ _ (finF Θ rs rc) y hG hrel ((h x).trans hxy) fun e s2 s2' r2 h2 => ?_
    have key : ∀ vs, resLV Θ s2 rs = some vs → castXL s2.H vs rc = some y → ∃ xs, resL Θ s2' rs = some xs ∧ ∃ ts : List Tr, retOf xs = retOf ts ∧ (ts.map (frz s2'.H fun _ => true)).length = (hparts rc y).length ∧ ∀ (i : Nat) p t, (hparts rc y)[i]? = some p → (ts.map (frz s2'.H fun _ => true))[i]? = some t → TVR p.1 p.2 t := by
      intro vs h1 h2
      obtain ⟨ts, h3, h4⟩ := resLV_sound r2 h1
      obtain ⟨k1, k2⟩ := castXL_sound (D := fun _ => true) (H0 := s2'.H) vs rc y ts h2 h4 fun d _ => .inr ⟨rfl, r2.O d, rfl⟩
      exact ⟨ts, h3, ts, rfl, k1, k2⟩
    show retK Θ rs _ e s2'
    unfold finF at h2
    cases e with
    | normal =>
      dsimp only at h2
      split at h2
      · rename_i vs hvs; exact key vs hvs h2
      · cases h2
    | ret =>
      dsimp only at h2
      split at h2
      · rename_i vs hvs; exact key vs hvs h2
      · cases h2
    | _ => cases h2
  · rintro r H' ⟨ts, rfl, k1, k2⟩ M v hMH ok hv
    subst hMH
    have hv' := hv.frz ok (fun _ => true)
    rw [frz_ret] at hv'
    exact embR_of hr k1 k2 hv'
end
end Go.Proofs.Ytnonimnhninafaa.Ab
