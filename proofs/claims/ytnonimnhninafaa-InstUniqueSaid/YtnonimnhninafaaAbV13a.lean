/- Rows that are given up: what they showed never changes any more. -/
import Derived.Test.YtnonimnhninafaaAbV12
namespace Go.Proofs.Ytnonimnhninafaa.Ab
open Go

def frzO (H : Heap) (D : Nat → Bool) (o : AObj) : AObj :=
  match o with
  | .dead => .dead
  | .cells t => .cells (frz H D t)
  | .row e sz xs => .row e sz (xs.map (frz H D))

def frzH (H : Heap) (D : Nat → Bool) : Heap := fun d =>
  match (H d).2 with
  | .row e sz xs => if D d = true then ((H d).1 + 1, .dead) else ((H d).1, frzO H D (.row e sz xs))
  | o => ((H d).1, frzO H D o)

def frzSt (s : St) (D : Nat → Bool) : St := ⟨fun t => frz s.H D (s.T t), frzH s.H D⟩

def Mem.frz2 (M : Mem) (D : Nat → Bool) : Mem := ⟨M.w, (M.frozen D).Im, M.β, frzH M.H D⟩

theorem frzH_gen (H : Heap) (D : Nat → Bool) (d : Nat) : (H d).1 ≤ (frzH H D d).1 := by
  unfold frzH
  split
  · split
    · exact Nat.le_succ _
    · exact Nat.le_refl _
  · exact Nat.le_refl _

theorem frzH_obj (H : Heap) (D : Nat → Bool) (d : Nat) (h : (frzH H D d).2 ≠ .dead) : (H d).2 ≠ .dead ∧ (frzH H D d) = ((H d).1, frzO H D (H d).2) ∧ ∀ e sz xs, (H d).2 = .row e sz xs → D d = false := by
  unfold frzH at h ⊢
  split at h
  · rename_i e sz xs hr
    rw [hr]
    split at h
    · exact absurd rfl h
    · rename_i hd
      exact ⟨by simp, by simp only [if_neg hd], fun _ _ _ _ => by simpa using hd⟩
  · rename_i o hno
    refine ⟨fun e => ?_, ?_, fun e sz xs hr => absurd hr (hno e sz xs)⟩
    · rw [e] at h; exact h rfl
    · rfl

theorem frzH_same (H : Heap) (D : Nat → Bool) (d : Nat) (h : (frzH H D d).1 = (H d).1) : (frzH H D d) = ((H d).1, frzO H D (H d).2) := by
  unfold frzH at h ⊢
  split at h
  · rename_i e sz xs hr
    rw [hr]
    split at h
    · simp at h
    · rename_i hd; simp only [if_neg hd]
  · rfl

theorem frz2_mono {M : Mem} (D : Nat → Bool) : Mono (M.frozen D) (M.frz2 D) := by
  refine ⟨fun _ h => h, fun _ _ => rfl, fun d => frzH_gen M.H D d, fun d h => ⟨rfl, fun e sz xs hx => ?_⟩⟩
  have e1 := frzH_same M.H D d h
  have hx' : (frzH M.H D d).2 = .row e sz xs := hx
  rw [e1] at hx'
  cases ho : (M.H d).2 with
  | dead => rw [ho] at hx'; cases hx'
  | cells t => rw [ho] at hx'; cases hx'
  | row e' sz' ys =>
    rw [ho] at hx'
    simp only [frzO, AObj.row.injEq] at hx'
    obtain ⟨rfl, rfl, _⟩ := hx'
    exact ⟨ys, ho⟩

theorem VR.frz2 {M : Mem} (ok : MemOK M) (D : Nat → Bool) {t : Tr} {v : Value} (h : VR M t v) : VR (M.frz2 D) (Ab.frz M.H D t) v := (h.frz ok D).mono (frz2_mono D)

theorem frz2_ok {M : Mem} (ok : MemOK M) (D : Nat → Bool) : MemOK (M.frz2 D) := by
  have hlive : ∀ d, Live (M.frz2 D) d → Live M d := fun d h => (frzH_obj M.H D d h).1
  refine ⟨fun d => ?_, fun d d' b K K' hne h1 h2 e1 e2 => ok.inj d d' b K K' hne (hlive d h1) (hlive d' h2) e1 e2, fun d b K hl hb hI => ?_, frozen_lt ok D⟩
  · by_cases hl : Live (M.frz2 D) d
    · obtain ⟨h1, h2, h3⟩ := frzH_obj M.H D d hl
      have ho := ok.objs d
      unfold ObjR at ho ⊢
      have e : ((M.frz2 D).H d).2 = frzO M.H D (M.H d).2 := by show (frzH M.H D d).2 = _; rw [h2]
      rw [e]
      cases hd : (M.H d).2 with
      | dead => trivial
      | cells t =>
        rw [hd] at ho
        obtain ⟨hw, b, K, c, e', hb, hc, hs, hv⟩ := ho
        refine ⟨frz_wf ok D t hw, b, K, c, e', hb, hc, by rw [frz_size]; exact hs, fun i l hi => ?_⟩
        rw [frz_leaves, List.getElem?_map] at hi
        obtain ⟨l0, hl0, rfl⟩ := Option.map_eq_some_iff.1 hi
        exact (hv i l0 hl0).frz2 ok D
      | row e' sz xs =>
        rw [hd] at ho
        obtain ⟨h0, hw, h4⟩ := ho
        refine ⟨h0, fun x hx => ?_, ?_⟩
        · obtain ⟨y, hy, rfl⟩ := List.mem_map.1 hx
          exact ⟨frz_wf ok D y (hw y hy).1, by rw [frz_size]; exact (hw y hy).2⟩
        · show match M.β d with | none => _ | some (b, K) => _
          cases hb : M.β d with
          | none => rw [hb] at h4; rw [h4]; rfl
          | some bK =>
            obtain ⟨b, K⟩ := bK
            rw [hb] at h4
            obtain ⟨c, hc, hs, hle, hK, hv⟩ := h4
            refine ⟨c, hc, hs, by simpa using hle, hK, fun i l hi => ?_⟩
            rw [← frzL_eq, frzL_leaves, List.getElem?_map] at hi
            obtain ⟨l0, hl0, rfl⟩ := Option.map_eq_some_iff.1 hi
            exact (hv i l0 hl0).frz2 ok D
    · unfold Live at hl
      simp only [ne_eq, Classical.not_not] at hl
      unfold ObjR
      rw [hl]
      trivial
  · rcases hI with hI | ⟨d', K', e, sz, xs, hD, hr, hb'⟩
    · exact ok.sep d b K (hlive d hl) hb hI
    · by_cases hdd : d = d'
      · subst hdd
        obtain ⟨_, _, h3⟩ := frzH_obj M.H D d hl
        rw [h3 e sz xs hr] at hD
        cases hD
      · exact ok.inj d d' b K K' hdd (hlive d hl) (by unfold Live; rw [hr]; simp) hb hb'

theorem Gam.freeze {M0 : Mem} {nt : Nat} {s : St} {M : Mem} {a : Act} (g : Gam M0 nt s M a) (D : Nat → Bool) : Gam M0 nt (frzSt s D) (M.frz2 D) a := by
  have hH := g.hH
  refine ⟨by show frzH M.H D = frzH s.H D; rw [hH], frz2_ok g.ok D, ?_, ?_, fun t => ?_, g.sz, g.df⟩
  · refine ⟨g.fr.os, g.fr.tape, g.fr.output, g.fr.size, g.fr.blk, fun d b K hl hb => g.fr.own d b K (frzH_obj M.H D d hl).1 hb, fun b hb => .inl (g.fr.im0 b hb), fun b hb => ?_⟩
    rcases hb with hb | ⟨d, K, e, sz, xs, _, hr, hb⟩
    · exact g.fr.im1 b hb
    · exact .inr (g.fr.own d b K (by unfold Live; rw [hr]; simp) hb)
  · refine g.mono.trans ⟨fun _ h => .inl h, fun _ _ => rfl, fun d => frzH_gen M.H D d, fun d h => ?_⟩
    exact (frz2_mono (M := M) D).same d h
  · show VR _ (Ab.frz s.H D (s.T t)) _
    rw [← hH]
    exact (g.tm t).frz2 g.ok D
end Go.Proofs.Ytnonimnhninafaa.Ab
