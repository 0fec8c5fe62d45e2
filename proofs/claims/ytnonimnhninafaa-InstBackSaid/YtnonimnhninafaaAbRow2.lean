/- A law's run, from its contract. -/
import Derived.Test.YtnonimnhninafaaAbRow1
import Derived.Below
import Derived.Carry
import Derived.WideShapes
namespace Go.Proofs.Ytnonimnhninafaa.Ab
open Go Go.WideShapes Go.ChangeShapes Go.RowKit

section
variable {P : Program} {Θ : Tab} {tyOf : TypeId → Option Ty} {H : Type} {enc : TypeId × Value → H} {W : World} {sp : Nat → Bool}

theorem trod_open (hΘ : TabOK P Θ) (hty : TypOK Θ tyOf) (hpos : ∀ t c, tyOf t = some c → 0 < tsz c) {t : TypeId} {c : Ty} {v : Value} {d : DataW H} {ps : List MemPlace} {base : Nat} (hc : tyOf t = some c) (hv : Value.okWide P W .any base t v) (h : DataW.Trod enc P W 0 sp true t v d ps) :
    ∃ x tr, TVR c x tr ∧ OKD c x ∧ VR (M0 W) tr v := by
  obtain ⟨fuel, hf⟩ := h
  obtain ⟨x, tr, ho⟩ := open_ty hΘ hty hpos fuel c t _ _ hc hf
  obtain ⟨i, tc⟩ := hty t c hc
  have hu := (hΘ t i tc.get).und
  have hk := tc.kind
  refine ⟨x, tr, ho.tv, ho.ok, ?_⟩
  obtain ⟨tv, ok, wf, len, vr⟩ := ho
  have hsz := tv.shape.1
  cases c with
  | int k =>
    rw [hk] at hu
    obtain ⟨n, rfl⟩ := okWide_int hu hv
    cases tv
    exact vr 0 _ rfl
  | bool =>
    rw [hk] at hu
    obtain ⟨n, rfl⟩ := okWide_bool hu hv
    cases tv
    exact vr 0 _ rfl
  | str =>
    rw [hk] at hu
    obtain ⟨n, rfl⟩ := okWide_string hu hv
    cases tv
    exact vr 0 _ rfl
  | sl c' =>
    obtain ⟨e, hk, he⟩ := hk
    rw [hk] at hu
    obtain ⟨a, l, cp, rfl⟩ := okWide_slice hu hv
    cases tv <;> exact vr 0 _ rfl
  | arr m c' =>
    obtain ⟨e, hk, he⟩ := hk
    rw [hk] at hu
    simp only [Value.okWide, hu.1] at hv
    obtain ⟨cs, rfl, _, _⟩ := hv
    have hag : tr.isAgg = true := by cases tv; rfl
    refine .agg hag wf ?_ fun i l hl => ?_
    · rw [hsz, ← len]; rfl
    · have := vr i l hl
      simpa [Value.cells, List.getD_eq_getElem?_getD, Array.getD_eq_getD_getElem?] using this
  | st s =>
    obtain ⟨ids, hk, _⟩ := hk
    rw [hk] at hu
    obtain ⟨fs, hu', _⟩ := hu
    simp only [Value.okWide, hu'] at hv
    obtain ⟨cs, rfl, _, _⟩ := hv
    have hag : tr.isAgg = true := by cases tv; rfl
    refine .agg hag wf ?_ fun i l hl => ?_
    · rw [hsz, ← len]; rfl
    · have := vr i l hl
      simpa [Value.cells, List.getD_eq_getElem?_getD, Array.getD_eq_getD_getElem?] using this

def OKH (ps : List Ty) (x : HL ps) : Prop := ∀ p ∈ hparts ps x, OKD p.1 p.2

theorem args_open (hΘ : TabOK P Θ) (hty : TypOK Θ tyOf) (hpos : ∀ t c, tyOf t = some c → 0 < tsz c) {base : Nat} : ∀ (ts : List TypeId) (ps : List Ty) (vs : List Value) (ds : List (DataW H)) (q : List MemPlace), ts.map tyOf = ps.map some →
    (∀ (j : Nat) t v, ts[j]? = some t → vs[j]? = some v → Value.okWide P W .any base t v) → DataW.TrodAll enc P W 0 sp true ts vs ds q →
    ∃ (x : HL ps) (trs : List Tr), trs.length = vs.length ∧ trs.length = (hparts ps x).length ∧ OKH ps x ∧ ∀ (i : Nat) p t v, (hparts ps x)[i]? = some p → trs[i]? = some t → vs[i]? = some v → TVR p.1 p.2 t ∧ VR (M0 W) t v
  | [], [], vs, ds, q, _, _, h => by
    obtain ⟨rfl, rfl, rfl⟩ := trodAll_nil h
    exact ⟨(), [], rfl, rfl, fun p hp => (by simp [hparts] at hp), fun i p t v hp => (by simp [hparts] at hp)⟩
  | [], _ :: _, _, _, _, hm, _, _ => by simp at hm
  | _ :: _, [], _, _, _, hm, _, _ => by simp at hm
  | t :: ts, c :: ps, vs, ds, q, hm, hval, h => by
    obtain ⟨v, vs', d, ds', p, q', rfl, rfl, rfl, h1, h2⟩ := trodAll_cons h
    simp only [List.map_cons, List.cons.injEq] at hm
    obtain ⟨x, tr, htv, hok, hvr⟩ := trod_open hΘ hty hpos hm.1 (hval 0 t v rfl rfl) h1
    obtain ⟨xs, trs, hl1, hl2, hoks, hR⟩ := args_open hΘ hty hpos ts ps vs' ds' q' hm.2 (fun j t v ht hv => hval (j + 1) t v (by simpa using ht) (by simpa using hv)) h2
    refine ⟨(x, xs), tr :: trs, by simp [hl1], by simp [hparts, hl2], fun p hp => ?_, fun i p t v hp ht hv => ?_⟩
    · simp only [hparts, List.mem_cons] at hp
      rcases hp with rfl | hp
      · exact hok
      · exact hoks p hp
    · cases i with
      | zero =>
        simp only [hparts, List.getElem?_cons_zero, Option.some.injEq] at hp ht hv
        subst hp; subst ht; subst hv
        exact ⟨htv, hvr⟩
      | succ i => exact hR i p t v (by simpa [hparts] using hp) (by simpa using ht) (by simpa using hv)

theorem args_back (hl : laidOutB P = true) {W' : World} (bel : Below W.heap.size W W') : ∀ (ts : List TypeId) (vs : List Value) (ds : List (DataW H)) (q : List MemPlace), (ts.all fun t => P.readableRec t && decide (t < P.types.size)) = true →
    DataW.TrodAll enc P W 0 (fun _ => true) true ts vs ds q → DataW.TrodAll enc P W' 0 (fun b => decide (b < W.heap.size)) true ts vs ds q
  | [], vs, ds, q, _, h => by
    obtain ⟨rfl, rfl, rfl⟩ := trodAll_nil h
    exact rfl
  | t :: ts, vs, ds, q, hr, h => by
    obtain ⟨v, vs', d, ds', p, q', rfl, rfl, rfl, h1, h2⟩ := trodAll_cons h
    simp only [List.all_cons, Bool.and_eq_true, decide_eq_true_eq] at hr
    refine ⟨p, q', Below.trod hl hr.1.1 hr.1.2 h1 bel ?_, args_back hl bel ts vs' ds' q' (by simpa using hr.2) h2, rfl⟩
    obtain ⟨m, hm⟩ := h1
    exact DataW.trod_lt m _ _ _ hm

theorem law_run (hΘ : TabOK P Θ) (hty : TypOK Θ tyOf) (hpos : ∀ t c, tyOf t = some c → 0 < tsz c) {f : FuncId} {ps : List Ty} {m : HL ps → Option (HL [Ty.bool])} (hc : ConOK P f ⟨ps, [.bool], m⟩) (hm : ∀ x, OKH ps x → m x = some (true, ()))
    {base : Nat} {ts : List TypeId} {args : Array Value} {ds : List (DataW H)} {q : List MemPlace} (hmap : ts.map tyOf = ps.map some) (hval : ∀ (j : Nat) t v, ts[j]? = some t → args.toList[j]? = some v → Value.okWide P W .any base t v)
    (h : DataW.TrodAll enc P W 0 sp true ts args.toList ds q) : Calls P f args W fun e W' => e = .returned (.bool true) ∧ Below W.heap.size W W' := by
  obtain ⟨x, trs, hl1, hl2, hok, hR⟩ := args_open hΘ hty hpos ts ps args.toList ds q hmap hval h
  have hcall := hc.trees (hm x hok) hl2 (fun i p t hp ht => by
    have hv : args.toList[i]? = some (args.toList[i]'(by rw [← hl1]; exact (List.getElem?_eq_some_iff.1 ht).1)) := by simp
    exact (hR i p t _ hp ht hv).1)
  have hsz : args.size = trs.length := by rw [hl1]; simp
  refine (hcall.2 (M0 W) args rfl (memOK_bare W _ _ fun b hb => hb) hsz fun i t ht => ?_).mono fun e W' hh => ?_
  · have hi : i < trs.length := (List.getElem?_eq_some_iff.1 ht).1
    have hv : args.toList[i]? = some (args.getD i undef) := by
      simp [Array.getD_eq_getD_getElem?, List.getElem?_eq_getElem (l := args.toList) (i := i) (by simpa [hsz] using hi), hsz, hi]
    have hp : (hparts ps x)[i]? = some ((hparts ps x)[i]'(by omega)) := by simp
    exact (hR i _ t _ hp ht hv).2
  · obtain ⟨v, r, M', rfl, rfl, hr, hM, fr, _, hvr⟩ := hh
    subst hr
    have : VR M' (.bool true) v := hvr
    obtain rfl : v = .bool true := by cases this with
      | bool => rfl
      | agg ha => cases ha
    refine ⟨rfl, fr.os, fr.tape, fr.output, fr.size, fun k hk => fr.blk k hk ?_⟩
    rintro ⟨d, K, hl, _⟩
    simp [Live, M0, hemp] at hl
end
end Go.Proofs.Ytnonimnhninafaa.Ab
