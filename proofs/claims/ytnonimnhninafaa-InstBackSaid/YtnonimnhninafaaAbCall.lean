/- How a proved contract is used at a call. -/
import Derived.Test.YtnonimnhninafaaAbFun
namespace Go.Proofs.Ytnonimnhninafaa.Ab
open Go

section
variable {P : Program}

/-- A contract: what a call does that is handed no object of its caller's own. -/
abbrev ACall (P : Program) (f : FuncId) (args : List Tr) (R : Tr → Heap → Prop) : Prop := CallSem P f args hemp R

theorem memOK_bare (w : World) (Im : Nat → Prop) (β : Nat → Option (Nat × Nat)) (h : ∀ b, Im b → b < w.heap.size) : MemOK ⟨w, Im, β, hemp⟩ where
  objs d := by unfold ObjR; simp [hemp]
  inj d d' b K K' _ h1 := by simp [Live, hemp] at h1
  sep d b K h1 := by simp [Live, hemp] at h1
  lt := h

/-- The rows of D are given up: what they showed never changes any more. -/
def kill (D : Nat → Bool) (H : Heap) : Heap := fun d =>
  if D d = true then match H d with
    | (g, .row _ _ _) => (g + 1, .dead)
    | x => x
  else H d

theorem kill_none (H : Heap) : kill (fun _ => false) H = H := by funext d; simp [kill]

theorem frozen_lt {M : Mem} (ok : MemOK M) (D : Nat → Bool) (b : Nat) (h : (M.frozen D).Im b) : b < M.w.heap.size := by
  rcases h with h | ⟨d, K, e, sz, xs, hD, hr, hb⟩
  · exact ok.lt b h
  · exact (ok.objs d).lt (by unfold Live; rw [hr]; simp) hb

/-- Behind a call that was handed what rows showed: the caller's memory, rows of D given up. -/
theorem after_call {M M1' : Mem} (ok : MemOK M) (D : Nat → Bool) (fr : Fr (baseOf ⟨M.w, (M.frozen D).Im, fun _ => none, hemp⟩) M1') (lt1 : ∀ b, M1'.Im b → b < M1'.w.heap.size) :
    let M' : Mem := ⟨M1'.w, M1'.Im, M.β, kill D M.H⟩
    MemOK M' ∧ Fr (baseOf M) M' ∧ Mono M M' := by
  intro M'
  have hkeep : ∀ b, b < M.w.heap.size → M1'.w.heap[b]? = M.w.heap[b]? := fun b hb => fr.blk b hb (by rintro ⟨d, K, hl, hβ⟩; simp at hβ)
  have hlive : ∀ d, Live M' d → Live M d ∧ M'.H d = M.H d := by
    intro d hl
    simp only [M', Live, kill] at hl ⊢
    by_cases hD : D d = true
    · rw [if_pos hD] at hl ⊢
      cases hh : M.H d with
      | mk g o =>
        rw [hh] at hl
        cases o with
        | dead => simp at hl
        | cells t => simp
        | row e sz xs => simp at hl
    · rw [if_neg hD] at hl ⊢
      exact ⟨hl, rfl⟩
  have hm : Mono M M' := by
    refine ⟨fun b hb => fr.im0 b (.inl hb), fun b hb => hkeep b (ok.lt b hb), fun d => ?_, fun d h => ?_⟩
    · simp only [M', kill]
      split
      · cases hh : M.H d with
        | mk g o => cases o <;> simp
      · exact Nat.le_refl _
    · refine ⟨rfl, ?_⟩
      simp only [M', kill] at h ⊢
      split at h
      · rename_i hD
        rw [if_pos hD]
        cases hh : M.H d with
        | mk g o =>
          rw [hh] at h
          cases o with
          | dead => exact fun _ _ xs h => ⟨xs, h⟩
          | cells t => exact fun _ _ xs h => ⟨xs, h⟩
          | row e sz xs => simp at h
      · rename_i hD
        rw [if_neg hD]
        exact fun _ _ xs h => ⟨xs, h⟩
  have hnot : ∀ d b K, Live M' d → M.β d = some (b, K) → ¬ M1'.Im b := by
    intro d b K hl hb hI
    obtain ⟨hl0, hHd⟩ := hlive d hl
    have hblt := (ok.objs d).lt hl0 hb
    rcases fr.im1 b hI with h | h | ⟨d', K', hl', hb'⟩
    · rcases h with h | ⟨d', K', e, sz, xs, hD, hr, hb'⟩
      · exact ok.sep d b K hl0 hb h
      · by_cases hdd : d = d'
        · subst hdd
          simp only [M', Live, kill, if_pos hD] at hl
          cases hh : M.H d with
          | mk g o => rw [hh] at hl hr; simp only at hr; subst hr; simp at hl
        · exact ok.inj d d' b K K' hdd hl0 (by unfold Live; rw [hr]; simp) hb hb'
    · have h' : M.w.heap.size ≤ b := h
      omega
    · simp at hb'
  refine ⟨⟨fun d => ?_, fun d d' b K K' hne l1 l2 e1 e2 => ok.inj d d' b K K' hne (hlive d l1).1 (hlive d' l2).1 e1 e2, fun d b K l1 e1 => hnot d b K l1 e1, lt1⟩,
    ⟨fr.os, fr.tape, fr.output, fr.size, fun b hb _ => hkeep b hb, fun d b K l1 e1 => .inr ⟨d, K, (hlive d l1).1, e1⟩, fun b hb => fr.im0 b (.inl hb), fun b hb => ?_⟩, hm⟩
  · by_cases hl : Live M' d
    · obtain ⟨hl0, hHd⟩ := hlive d hl
      exact (ok.objs d).mono hm hHd (fun b K hb _ => hkeep b ((ok.objs d).lt hl0 hb))
    · unfold Live at hl
      simp only [ne_eq, Classical.not_not] at hl
      unfold ObjR
      rw [hl]
      trivial
  · rcases fr.im1 b hb with h | h | ⟨d', K', hl', hb'⟩
    · rcases h with h | ⟨d', K', e, sz, xs, hD, hr, hb'⟩
      · exact .inl h
      · exact .inr (.inr ⟨d', K', by unfold Live; rw [hr]; simp, hb'⟩)
    · exact .inr (.inl h)
    · simp at hb'

theorem args_frz {M : Mem} (ok : MemOK M) (D : Nat → Bool) {args : List Tr} {vs : Array Value} (hv : ∀ (i : Nat) x, args[i]? = some x → VR M x (vs.getD i undef)) (hlf : ∀ x ∈ args.map (frz M.H D), x.lf = true)
    (β : Nat → Option (Nat × Nat)) (H : Heap) : ∀ (i : Nat) x, (args.map (frz M.H D))[i]? = some x → VR ⟨M.w, (M.frozen D).Im, β, H⟩ x (vs.getD i undef) := by
  intro i x hx
  have hl := hlf x (List.mem_of_getElem? hx)
  rw [List.getElem?_map] at hx
  obtain ⟨y, hy, rfl⟩ := Option.map_eq_some_iff.1 hx
  exact VR.lf_move (M := M.frozen D) (M1 := ⟨M.w, (M.frozen D).Im, β, H⟩) rfl (fun _ h => h) ((hv i y hy).frz ok D) hl

/-- A contract is used: what rows of D show is handed on; those rows are given up. -/
theorem CallSem.pure (D : Nat → Bool) {f : FuncId} {args args' : List Tr} {H : Heap} {R : Tr → Heap → Prop} {R' : Tr → Prop} (h : ACall P f args' R) (hargs : args' = args.map (frz H D)) (hlf : lfL args' = true)
    (hR : ∀ r H', R r H' → (frz H' (fun _ => true) r).lf = true ∧ R' (frz H' (fun _ => true) r)) : CallSem P f args H fun r H' => R' r ∧ H' = kill D H := by
  refine ⟨h.1, fun M vs hH ok hs hv => ?_⟩
  subst hH
  let M1 : Mem := ⟨M.w, (M.frozen D).Im, fun _ => none, hemp⟩
  have hlf' := (lfL_iff _).1 hlf
  rw [hargs] at hlf'
  refine (h.2 M1 vs rfl (memOK_bare _ _ _ (frozen_lt ok D)) (by rw [hargs]; simpa using hs) (by rw [hargs]; exact args_frz ok D hv hlf' _ _)).mono ?_
  rintro e w' ⟨v, r, M1', rfl, rfl, hr, ok1, fr1, hm1, hv1⟩
  obtain ⟨hl, hR'⟩ := hR _ _ hr
  let M1f : Mem := M1'.frozen fun _ => true
  have fr1f : Fr (baseOf M1) M1f := ⟨fr1.os, fr1.tape, fr1.output, fr1.size, fr1.blk, fr1.own, fun b hb => .inl (fr1.im0 b hb), fun b hb => by
    rcases hb with hb | ⟨d, K, e, sz, xs, _, hr', hb⟩
    · exact fr1.im1 b hb
    · exact .inr (fr1.own d b K (by unfold Live; rw [hr']; simp) hb)⟩
  obtain ⟨okf, frf, mf⟩ := after_call ok D fr1f (frozen_lt ok1 _)
  exact ⟨v, _, (⟨M1f.w, M1f.Im, M.β, kill D M.H⟩ : Mem), rfl, rfl, ⟨hR', rfl⟩, okf, frf, mf, VR.lf_move (M := M1f) (M1 := ⟨M1f.w, M1f.Im, M.β, kill D M.H⟩) rfl (fun _ h => h) (hv1.frz ok1 _) hl⟩

/-- A contract is used, nothing given up: what is handed back leads to no memory. -/
theorem CallSem.borrow (D : Nat → Bool) {f : FuncId} {args args' : List Tr} {H : Heap} {R : Tr → Heap → Prop} {R' : Tr → Prop} (h : ACall P f args' R) (hargs : args' = args.map (frz H D)) (hlf : lfL args' = true)
    (hR : ∀ r H', R r H' → r.nosl = true ∧ R' r) : CallSem P f args H fun r H' => R' r ∧ H' = H := by
  refine ⟨h.1, fun M vs hH ok hs hv => ?_⟩
  subst hH
  let M1 : Mem := ⟨M.w, (M.frozen D).Im, fun _ => none, hemp⟩
  have hlf' := (lfL_iff _).1 hlf
  rw [hargs] at hlf'
  refine (h.2 M1 vs rfl (memOK_bare _ _ _ (frozen_lt ok D)) (by rw [hargs]; simpa using hs) (by rw [hargs]; exact args_frz ok D hv hlf' _ _)).mono ?_
  rintro e w' ⟨v, r, M1', rfl, rfl, hr, ok1, fr1, hm1, hv1⟩
  obtain ⟨hl, hR'⟩ := hR _ _ hr
  have hkeep : ∀ b, b < M.w.heap.size → M1'.w.heap[b]? = M.w.heap[b]? := fun b hb => fr1.blk b hb (by rintro ⟨d, K, hl, hβ⟩; simp [M1] at hβ)
  let M' : Mem := ⟨M1'.w, M.Im, M.β, M.H⟩
  have hm : Mono M M' := ⟨fun _ h => h, fun b hb => hkeep b (ok.lt b hb), fun _ => Nat.le_refl _, fun _ _ => ⟨rfl, fun _ _ xs h => ⟨xs, h⟩⟩⟩
  refine ⟨v, r, M', rfl, rfl, ⟨hR', rfl⟩, ⟨fun d => ?_, ok.inj, ok.sep, fun b hb => ?_⟩, ⟨fr1.os, fr1.tape, fr1.output, fr1.size, fun b hb _ => hkeep b hb, fun d b K l1 e1 => .inr ⟨d, K, l1, e1⟩, fun b hb => hb, fun b hb => .inl hb⟩, hm, hv1.nosl_move hl⟩
  · by_cases hl : Live M d
    · exact (ok.objs d).mono hm rfl (fun b K hb _ => hkeep b ((ok.objs d).lt hl hb))
    · unfold Live at hl
      simp only [ne_eq, Classical.not_not] at hl
      unfold ObjR
      simp only [M', hl]
  · have h1 := ok.lt b hb
    have h2 := fr1.size
    have h3 : M.w.heap.size ≤ M1'.w.heap.size := h2
    exact Nat.lt_of_lt_of_le h1 h3


/-- A contract is used that hands back a row of its own: it becomes the caller's, under label L. -/
theorem CallSem.owned (D : Nat → Bool) (L : Nat) {f : FuncId} {args args' : List Tr} {H : Heap} {R : Tr → Heap → Prop} {R' : TypeId → Nat → List Tr → Prop} (h : ACall P f args' R) (hargs : args' = args.map (frz H D)) (hlf : lfL args' = true)
    (hR : ∀ r H', R r H' → ∃ d g e sz xs, r = .own d g 0 xs.length ∧ H' d = (g, .row e sz xs) ∧ lfL xs = true ∧ R' e sz xs) :
    CallSem P f args H fun r H' => ∃ e sz xs, R' e sz xs ∧ r = .own L ((kill D H L).1 + 1) 0 xs.length ∧ H' = upd (kill D H) L ((kill D H L).1 + 1, .row e sz xs) := by
  refine ⟨h.1, fun M vs hH ok hs hv => ?_⟩
  subst hH
  let M1 : Mem := ⟨M.w, (M.frozen D).Im, fun _ => none, hemp⟩
  have hlf' := (lfL_iff _).1 hlf
  rw [hargs] at hlf'
  refine (h.2 M1 vs rfl (memOK_bare _ _ _ (frozen_lt ok D)) (by rw [hargs]; simpa using hs) (by rw [hargs]; exact args_frz ok D hv hlf' _ _)).mono ?_
  rintro e w' ⟨v, r, M1', rfl, rfl, hr, ok1, fr1, hm1, hv1⟩
  obtain ⟨d, g, e, sz, xs, rfl, hd, hl, hR'⟩ := hR _ _ hr
  obtain ⟨okf, frf, mf⟩ := after_call ok D fr1 ok1.lt
  let M2 : Mem := ⟨M1'.w, M1'.Im, M.β, kill D M.H⟩
  let M3 : Mem := ⟨M1'.w, M1'.Im, upd M.β L (M1'.β d), upd (kill D M.H) L ((kill D M.H L).1 + 1, .row e sz xs)⟩
  have hlf2 := (lfL_iff _).1 hl
  have hm : Mono M2 M3 := ⟨fun _ h => h, fun _ _ => rfl, fun d' => by
      simp only [M2, M3, upd]; split
      · rename_i hh; subst hh; simp
      · exact Nat.le_refl _, fun d' hh => by
      simp only [M2, M3, upd] at hh ⊢
      by_cases hd' : d' = L
      · subst hd'; simp at hh
      · simp only [hd', if_false]; exact ⟨trivial, fun _ _ xs hx => ⟨xs, hx⟩⟩⟩
  have hlive : ∀ d', d' ≠ L → Live M3 d' → Live M2 d' := fun d' hne hl => by simpa [M2, M3, Live, upd, hne] using hl
  have hrow := ok1.objs d
  unfold ObjR at hrow
  rw [hd] at hrow
  have hdl : Live M1' d := by unfold Live; rw [hd]; simp
  have hfresh : ∀ b K, M1'.β d = some (b, K) → M.w.heap.size ≤ b := fun b K hb => by
    rcases fr1.own d b K hdl hb with h' | ⟨_, _, _, h'⟩
    · exact h'
    · simp [M1] at h'
  have hlv : ∀ d', Live M2 d' → Live M d' := by
    intro d' hl
    simp only [M2, Live, kill] at hl ⊢
    by_cases hD : D d' = true
    · rw [if_pos hD] at hl
      cases hh : M.H d' with
      | mk g o =>
        rw [hh] at hl
        cases o with
        | dead => simp at hl
        | cells t => simp
        | row e sz xs => simp
    · rw [if_neg hD] at hl
      exact hl
  have hold : ∀ d' b K, d' ≠ L → Live M3 d' → M3.β d' = some (b, K) → b < M.w.heap.size ∧ M.β d' = some (b, K) := fun d' b K hne hl hb => by
    have hb' : M.β d' = some (b, K) := by simpa [M3, upd, hne] using hb
    exact ⟨(ok.objs d').lt (hlv d' (hlive d' hne hl)) hb', hb'⟩
  have hvr : VR M3 (.own L ((kill D M.H L).1 + 1) 0 xs.length) v := by
    have ho := hv1.own_inv hd
    refine .own (by cases hv1 with | own h1 _ _ => exact h1 | agg ha => simp [Tr.isAgg] at ha) (by simp [M3]) fun e2 sz2 xs2 hd2 => ?_
    simp only [M3, upd_same, Prod.mk.injEq, true_and, AObj.row.injEq] at hd2
    obtain ⟨rfl, rfl, rfl⟩ := hd2
    simpa [M3] using ho
  have hobj : ObjR M3 L := by
    unfold ObjR
    simp only [M3, upd_same]
    refine ⟨hrow.1, hrow.2.1, ?_⟩
    cases hb : M1'.β d with
    | none => rw [hb] at hrow; exact hrow.2.2
    | some bK =>
      obtain ⟨b, K⟩ := bK
      rw [hb] at hrow
      obtain ⟨c, h1, h2, h3, h4, h5⟩ := hrow.2.2
      refine ⟨c, h1, h2, h3, h4, fun i l hi => ?_⟩
      refine VR.lf_move (M := M1') ?_ ?_ (h5 i l hi) (lfL_leaves xs hl l (List.mem_of_getElem? hi))
      · rfl
      · exact fun _ h => h
  refine ⟨v, _, M3, rfl, rfl, ⟨e, sz, xs, hR', rfl, rfl⟩, ⟨fun d' => ?_, fun d1 d2 b K K' hne l1 l2 e1 e2 => ?_, fun d' b K l1 e1 => ?_, okf.lt⟩,
    ⟨frf.os, frf.tape, frf.output, frf.size, frf.blk, fun d' b K l1 e1 => ?_, frf.im0, frf.im1⟩, mf.trans hm, hvr⟩
  · by_cases hd' : d' = L
    · subst hd'; exact hobj
    · exact (okf.objs d').mono hm (by simp [M3, M2, upd, hd']) (fun _ _ _ _ => rfl)
  · by_cases h1 : d1 = L
    · have h2 : d2 ≠ L := fun e => hne (h1.trans e.symm)
      subst h1
      have e1' : M1'.β d = some (b, K) := by simpa [M3] using e1
      have := hfresh b K e1'
      have := (hold d2 b K' h2 l2 e2).1
      omega
    · by_cases h2 : d2 = L
      · subst h2
        have e2' : M1'.β d = some (b, K') := by simpa [M3] using e2
        have := hfresh b K' e2'
        have := (hold d1 b K h1 l1 e1).1
        omega
      · refine okf.inj d1 d2 b K K' hne (hlive d1 h1 l1) (hlive d2 h2 l2) ?_ ?_
        · simpa [M3, upd, h1] using e1
        · simpa [M3, upd, h2] using e2
  · by_cases hd' : d' = L
    · subst hd'
      have e1' : M1'.β d = some (b, K) := by simpa [M3] using e1
      exact ok1.sep d b K hdl e1'
    · exact okf.sep d' b K (hlive d' hd' l1) (by simpa [M3, upd, hd'] using e1)
  · by_cases hd' : d' = L
    · subst hd'
      have e1' : M1'.β d = some (b, K) := by simpa [M3] using e1
      exact .inl (hfresh b K e1')
    · exact frf.own d' b K (hlive d' hd' l1) (by simpa [M3, upd, hd'] using e1)

end
end Go.Proofs.Ytnonimnhninafaa.Ab
