/- Arguments of a law as typed values. -/
import Derived.Test.YtnonimnhninafaaAbPkV2
import Derived.Test.YtnonimnhninafaaAbPkA1
import Derived.ChangeArms
import Derived.OpenShut
import Derived.DataReads
import Derived.ShutString
import Derived.ChangeOld
import Derived.SizedLaws
import Derived.Test.YtnonimnhninafaaChecked
import Derived.Below
import Derived.Carry
import Derived.WideShapes
namespace Go.Proofs.Ytnonimnhninafaa.Ab
open Go
set_option linter.unusedVariables false
set_option linter.unusedSimpArgs false

/-- A typed value is one that a Go value may be. -/
inductive OKD : (c : Ty) → den c → Prop
  | int (k : IntKind) (n : Int) (h : (Lit.int k n).wf = true) : OKD (.int k) n
  | bool (b : Bool) : OKD .bool b
  | str (s : ByteArray) (h : s.size ≤ maxLen) : OKD .str s
  | sl {c : Ty} (xs : List (den c)) (h : ∀ x ∈ xs, OKD c x) (hl : xs.length ≤ maxLen) : OKD (.sl c) xs
  | arr {c : Ty} {n : Nat} (xs : Vector (den c) n) (h : ∀ x ∈ xs.toList, OKD c x) : OKD (.arr n c) xs
  | st (s : SId) (x : SDen s) (h : ∀ p ∈ parts s x, OKD p.1 p.2) : OKD (.st s) x

def M0 (W : World) : Mem := ⟨W, fun b => b < W.heap.size, fun _ => none, hemp⟩

/-- Cells that show a typed value. -/
structure Opn (W : World) (cs : List Value) (c : Ty) (x : den c) (t : Tr) : Prop where
  tv : TVR c x t
  ok : OKD c x
  wf : t.wf
  len : cs.length = tsz c
  vr : ∀ i l, t.leaves[i]? = some l → VR (M0 W) l (cs.getD i undef)

theorem Opn.one {W : World} {v : Value} {c : Ty} {x : den c} {t : Tr} (tv : TVR c x t) (ok : OKD c x) (wf : t.wf) (hs : tsz c = 1) (hl : t.leaves = [t]) (vr : VR (M0 W) t v) : Opn W [v] c x t :=
  ⟨tv, ok, wf, by rw [hs]; rfl, fun i l hi => by
    rw [hl] at hi
    cases i with
    | zero => simp at hi; subst hi; exact vr
    | succ i => simp at hi⟩

/-- Parts that lie one behind the other. -/
theorem opn_parts {W : World} {cs : List Value} : ∀ (os : List Nat) (ts : List Tr) (a sz : Nat), offsOK os ts a sz → (∀ t ∈ ts, t.wf) → (∀ (j : Nat) o t, os[j]? = some o → ts[j]? = some t → ∀ i l, t.leaves[i]? = some l → VR (M0 W) l (cs.getD (o + i) undef)) →
    ∀ i l, (leavesL ts)[i]? = some l → VR (M0 W) l (cs.getD (a + i) undef)
  | [], [], a, sz, _, _, _, i, l, h => by simp [leavesL] at h
  | o :: os, t :: ts, a, sz, ho, hw, hp, i, l, h => by
    simp only [offsOK] at ho
    simp only [leavesL] at h
    have hlen := leaves_length t (hw t (by simp))
    by_cases hi : i < t.leaves.length
    · rw [List.getElem?_append_left hi] at h
      rw [← ho.1]
      exact hp 0 o t rfl rfl i l h
    · rw [List.getElem?_append_right (by omega)] at h
      have := opn_parts os ts (a + t.size) sz ho.2 (fun t ht => hw t (by simp [ht])) (fun j o t h1 h2 => hp (j + 1) o t (by simpa using h1) (by simpa using h2)) (i - t.leaves.length) l h
      rw [hlen] at this
      have e : a + t.size + (i - t.size) = a + i := by omega
      rw [e] at this
      exact this
  | [], _ :: _, _, _, ho, _, _, _, _, _ => by simp [offsOK] at ho
  | _ :: _, [], _, _, ho, _, _, _, _, _ => by simp [offsOK] at ho

theorem list_of {α β : Type} {n : Nat} [Inhabited α] [Inhabited β] {R : Nat → α → β → Prop} (h : ∀ i, i < n → ∃ x y, R i x y) : ∃ (xs : List α) (ys : List β), xs.length = n ∧ ys.length = n ∧ ∀ i x y, xs[i]? = some x → ys[i]? = some y → R i x y := by
  induction n with
  | zero => exact ⟨[], [], rfl, rfl, fun i x y h => by simp at h⟩
  | succ n ih =>
    obtain ⟨xs, ys, h1, h2, h3⟩ := ih fun i hi => h i (by omega)
    obtain ⟨x, y, hxy⟩ := h n (by omega)
    refine ⟨xs ++ [x], ys ++ [y], by simp [h1], by simp [h2], fun i a b ha hb => ?_⟩
    rw [List.getElem?_append] at ha hb
    rw [h1] at ha
    rw [h2] at hb
    split at ha
    · rename_i hi
      rw [if_pos hi] at hb
      exact h3 i a b ha hb
    · rename_i hi
      rw [if_neg hi] at hb
      have e : i = n := by
        have := (List.getElem?_eq_some_iff.1 ha).1
        simp at this; omega
      subst e
      simp at ha hb
      subst ha hb
      exact hxy

section
variable {P : Program} {Θ : Tab} {tyOf : TypeId → Option Ty} {H : Type} {enc : TypeId × Value → H} {W : World} {sp : Nat → Bool}

theorem cellsOf_tsz (hΘ : TabOK P Θ) {t : TypeId} {c : Ty} {i : TyI} (tc : TyC Θ tyOf t c i) : P.cellsOf t = tsz c := by
  obtain ⟨inf, h1, h2, _⟩ := (hΘ t i tc.get).info
  simp [Program.cellsOf, h1, h2, tc.size]

theorem offs_zero (hΘ : TabOK P Θ) {t : TypeId} {s : SId} {i : TyI} (tc : TyC Θ tyOf t (.st s) i) : offsOK (soffs s) ((tys s).map (tz 8)) 0 (ssz s) := by
  obtain ⟨inf, _, _, _, h4⟩ := (hΘ t i tc.get).info
  have hg : i.zero.good = true := by rw [tc.zero]; rfl
  have := (h4 hg).1
  rw [tc.zero] at this
  simp only [tz, Tr.wf] at this
  exact this.1

theorem leavesL_inv {sz : Nat} {ts : List Tr} (h : ∀ x ∈ ts, x.wf ∧ x.size = sz) (h0 : 0 < sz) {k : Nat} {l : Tr} (hk : (leavesL ts)[k]? = some l) : ∃ t, ts[k / sz]? = some t ∧ t.leaves[k % sz]? = some l := by
  have hlen : (leavesL ts).length = sz * ts.length := by
    rw [leavesL_length ts ((wfL_iff _).2 fun x hx => (h x hx).1), sum_size_const sz ts fun x hx => (h x hx).2]
  have hlt : k < sz * ts.length := by rw [← hlen]; exact (List.getElem?_eq_some_iff.1 hk).1
  have hq : k / sz < ts.length := by rw [Nat.div_lt_iff_lt_mul h0, Nat.mul_comm]; exact hlt
  have hr : k % sz < sz := Nat.mod_lt _ h0
  have hm := List.getElem_mem hq
  have hx : ts[k / sz]? = some ts[k / sz] := by simp
  have hlj : k % sz < ts[k / sz].leaves.length := by rw [leaves_length _ (h _ hm).1, (h _ hm).2]; exact hr
  refine ⟨_, hx, ?_⟩
  have hj : ts[k / sz].leaves[k % sz]? = some ts[k / sz].leaves[k % sz] := by simp
  have := leavesL_elem sz ts h (k / sz) _ hx (k % sz) _ hj
  have e : k / sz * sz + k % sz = k := by rw [Nat.mul_comm]; exact Nat.div_add_mod k sz
  rw [e, hk] at this
  rw [hj, this]

theorem open_ty (hΘ : TabOK P Θ) (hty : TypOK Θ tyOf) (hpos : ∀ t c, tyOf t = some c → 0 < tsz c) : ∀ (fuel : Nat) (c : Ty) (t : TypeId) (cs : List Value) (y : DataW H × List MemPlace), tyOf t = some c → DataW.trod enc P W 0 sp true fuel t cs = some y → ∃ x tr, Opn W cs c x tr := by
  intro fuel
  induction fuel with
  | zero => intro c t cs y _ h; simp [DataW.trod] at h
  | succ fuel ih =>
    intro c t cs y hc h
    obtain ⟨i, tc⟩ := hty t c hc
    have hu := (hΘ t i tc.get).und
    have hk := tc.kind
    cases c with
    | int k =>
      rw [hk] at hu
      simp only at hu
      unfold DataW.trod at h
      rw [hu] at h
      split at h <;> simp_all
      rename_i k1 k' n hkk
      subst hkk
      obtain ⟨⟨_, hwf⟩, _⟩ := h
      exact ⟨n, .int _ n, Opn.one (.int _ n) (.int _ n hwf) trivial rfl rfl (.int _ n)⟩
    | bool =>
      rw [hk] at hu
      simp only at hu
      unfold DataW.trod at h
      rw [hu] at h
      split at h <;> simp_all
      rename_i b
      exact ⟨b, .bool b, Opn.one (.bool b) (.bool b) trivial rfl rfl (.bool b)⟩
    | str =>
      rw [hk] at hu
      simp only at hu
      unfold DataW.trod at h
      rw [hu] at h
      split at h <;> simp_all
      rename_i s
      exact ⟨s, .str s, Opn.one (.str s) (.str s h.1) trivial rfl rfl (.str s)⟩
    | sl c' =>
      obtain ⟨e, hk, he⟩ := hk
      rw [hk] at hu
      simp only at hu
      obtain ⟨ei, te⟩ := hty e c' he
      have hcell : P.cellsOf e = tsz c' := cellsOf_tsz hΘ te
      have h0 : 0 < tsz c' := hpos e c' he
      rcases DataW.trod_slice hu h with ⟨rfl, _⟩ | ⟨a, len, cap, elems, rest, n, hn, rfl, _, _, hl, hm, hlen, hel, _, _⟩
      · exact ⟨([] : List (den c')), .nils, Opn.one (.nil c') (.sl [] (by simp) (Nat.zero_le _)) trivial rfl rfl .nils⟩
      · obtain rfl : fuel = n := by omega
        letI : Inhabited (den c') := ⟨dflt c'⟩
        have each : ∀ j, j < len → ∃ (x : den c') (tr : Tr), ∃ cj, W.cells? 0 (a.add (j * tsz c')) (tsz c') = some cj ∧ Opn W cj c' x tr := by
          intro j hj
          have h1 := hel j hj
          rw [hcell] at h1
          have h2 : elems[j]? = some (elems[j]'(by omega)) := by simp
          rw [h2] at h1
          obtain ⟨cj, h3, h4⟩ := Option.bind_eq_some_iff.1 h1
          obtain ⟨x, tr, ho⟩ := ih c' e cj _ he h4
          exact ⟨x, tr, cj, h3, ho⟩
        obtain ⟨xs, ts, hxs, hts, hR⟩ := list_of each
        have get : ∀ j, j < len → ∃ cj, W.cells? 0 (a.add (j * tsz c')) (tsz c') = some cj ∧ ∃ x tr, xs[j]? = some x ∧ ts[j]? = some tr ∧ Opn W cj c' x tr := by
          intro j hj
          have hx : xs[j]? = some (xs[j]'(by omega)) := by simp
          have ht : ts[j]? = some (ts[j]'(by omega)) := by simp
          obtain ⟨cj, h3, h4⟩ := hR j _ _ hx ht
          exact ⟨cj, h3, _, _, hx, ht, h4⟩
        have hw : ∀ tr ∈ ts, tr.wf ∧ tr.size = tsz c' := by
          intro tr htr
          obtain ⟨j, hj, rfl⟩ := List.mem_iff_getElem.1 htr
          obtain ⟨cj, _, x, tr', _, h2, h3⟩ := get j (by omega)
          have e2 : tr' = ts[j] := by rw [List.getElem?_eq_getElem hj] at h2; exact (Option.some.inj h2).symm
          subst e2
          exact ⟨h3.wf, h3.tv.shape.1⟩
        have cell : ∀ k l, (leavesL ts)[k]? = some l → ∃ v, W.cell? (a.add k) = some v ∧ VR (M0 W) l v := by
          intro k l hk
          obtain ⟨tr, h1, h2⟩ := leavesL_inv hw h0 hk
          have hj : k / tsz c' < len := by rw [← hts]; exact (List.getElem?_eq_some_iff.1 h1).1
          obtain ⟨cj, h3, x, tr', _, h5, h6⟩ := get _ hj
          have e2 : tr' = tr := Option.some.inj (h5.symm.trans h1)
          subst e2
          obtain ⟨_, h7, h8⟩ := World.cells?_some h3
          have hr : k % tsz c' < tsz c' := Nat.mod_lt _ h0
          have h9 := h8 _ hr
          rw [add_add] at h9
          have e3 : k / tsz c' * tsz c' + k % tsz c' = k := by rw [Nat.mul_comm]; exact Nat.div_add_mod k _
          rw [e3] at h9
          have h10 : cj[k % tsz c']? = some (cj.getD (k % tsz c') undef) := getD_some (by omega)
          rw [h10] at h9
          exact ⟨_, h9, h6.vr _ _ h2⟩
        have haddr : 0 < ts.length → a.spot = none ∧ a.block < W.heap.size := by
          intro hp
          obtain ⟨cj, h3, _⟩ := get 0 (by omega)
          obtain ⟨_, h7, h8⟩ := World.cells?_some h3
          have h9 := h8 0 h0
          have h10 : cj[0]? = some (cj.getD 0 undef) := getD_some (by omega)
          rw [h10, add_add, Nat.zero_mul] at h9
          have hsp : a.spot = none := by
            unfold World.cell? at h9
            split at h9
            · split at h9
              · cases h9
              · rename_i hns
                cases hs : a.spot with
                | none => rfl
                | some q =>
                  have : (a.add (0 + 0)).spot.isSome = true := by unfold Addr.add; simp [hs]
                  exact absurd this (by simpa using hns)
            · cases h9
          refine ⟨hsp, ?_⟩
          unfold World.cell? at h9
          rw [add_block] at h9
          split at h9
          · rename_i hb; exact (Array.getElem?_eq_some_iff.1 hb).1
          · cases h9
        refine ⟨xs, .sl (tsz c') ts, Opn.one (.sl xs ts (by omega) fun j x tr hx htr => ?_) (.sl xs (fun x hx => ?_) (by omega)) ?_ rfl rfl ?_⟩
        · obtain ⟨cj, _, h6⟩ := hR j x tr hx htr
          exact h6.tv
        · obtain ⟨j, hj, rfl⟩ := List.mem_iff_getElem.1 hx
          obtain ⟨cj, _, x, tr', h4, _, h6⟩ := get j (by omega)
          have e2 : x = xs[j] := by rw [List.getElem?_eq_getElem hj] at h4; exact (Option.some.inj h4).symm
          subst e2
          exact h6.ok
        · simp only [Tr.wf]
          exact ⟨fun x hx => (hw x hx).2, (wfL_iff _).2 fun x hx => (hw x hx).1⟩
        · have e4 : len = ts.length := hts.symm
          subst e4
          refine .sl (fun k => (W.cell? (a.add k)).getD undef) hl (by simp) hw (fun ad ha hp => ?_) (fun k l hk => ?_) (fun k l hk => ?_)
          · obtain rfl := Option.some.inj ha
            exact haddr hp
          · obtain ⟨v, h1, h2⟩ := cell k l hk
            exact ⟨a, rfl, by show W.cell? _ = _; rw [h1]; rfl⟩
          · obtain ⟨v, h1, h2⟩ := cell k l hk
            rw [h1]; exact h2
    | arr m c' =>
      obtain ⟨e, hk, he⟩ := hk
      rw [hk] at hu
      simp only at hu
      obtain ⟨ei, te⟩ := hty e c' he
      have hcell : P.cellsOf e = tsz c' := cellsOf_tsz hΘ te
      have h0 : 0 < tsz c' := hpos e c' he
      obtain ⟨xs', n, hn, _, hl, hlen, hf⟩ := DataW.trod_array hu.1 h
      obtain rfl : fuel = n := by omega
      have hcl : cs.length = tsz (.arr m c') := by rw [hl, cellsOf_tsz hΘ tc]
      letI : Inhabited (den c') := ⟨dflt c'⟩
      have each : ∀ j, j < m → ∃ (x : den c') (tr : Tr), Opn W ((cs.drop (j * tsz c')).take (tsz c')) c' x tr := by
        intro j hj
        have h1 := hf j hj
        rw [hcell] at h1
        have h2 : xs'[j]? = some (xs'[j]'(by omega)) := by simp
        rw [h2] at h1
        exact ih c' e _ _ he h1
      obtain ⟨xs, ts, hxs, hts, hR⟩ := list_of each
      have get : ∀ j, j < m → ∃ x tr, xs[j]? = some x ∧ ts[j]? = some tr ∧ Opn W ((cs.drop (j * tsz c')).take (tsz c')) c' x tr := by
        intro j hj
        have hx : xs[j]? = some (xs[j]'(by omega)) := by simp
        have ht : ts[j]? = some (ts[j]'(by omega)) := by simp
        exact ⟨_, _, hx, ht, hR j _ _ hx ht⟩
      have hw : ∀ tr ∈ ts, tr.wf ∧ tr.size = tsz c' := by
        intro tr htr
        obtain ⟨j, hj, rfl⟩ := List.mem_iff_getElem.1 htr
        obtain ⟨x, tr', _, h2, h3⟩ := get j (by omega)
        have e2 : tr' = ts[j] := by rw [List.getElem?_eq_getElem hj] at h2; exact (Option.some.inj h2).symm
        subst e2
        exact ⟨h3.wf, h3.tv.shape.1⟩
      have hv : (⟨xs.toArray, by simp [hxs]⟩ : Vector (den c') m).toList = xs := by simp
      refine ⟨(⟨xs.toArray, by simp [hxs]⟩ : Vector (den c') m), .arr (tsz c') ts, .arr _ ts hts (by rw [hv]; exact fun j x tr hx htr => (hR j x tr hx htr).tv), .arr _ (by
        rw [hv]
        intro x hx
        obtain ⟨j, hj, rfl⟩ := List.mem_iff_getElem.1 hx
        obtain ⟨x, tr', h4, _, h6⟩ := get j (by omega)
        have e2 : x = xs[j] := by rw [List.getElem?_eq_getElem hj] at h4; exact (Option.some.inj h4).symm
        subst e2
        exact h6.ok), ?_, hcl, fun k l hk2 => ?_⟩
      · simp only [Tr.wf]
        exact ⟨fun x hx => (hw x hx).2, (wfL_iff _).2 fun x hx => (hw x hx).1⟩
      · obtain ⟨tr, h1, h2⟩ := leavesL_inv hw h0 (show (leavesL ts)[k]? = some l from hk2)
        have hj : k / tsz c' < m := by rw [← hts]; exact (List.getElem?_eq_some_iff.1 h1).1
        obtain ⟨x, tr', _, h5, h6⟩ := get _ hj
        have e2 : tr' = tr := Option.some.inj (h5.symm.trans h1)
        subst e2
        have h7 := h6.vr _ _ h2
        have hr : k % tsz c' < tsz c' := Nat.mod_lt _ h0
        have e3 : k / tsz c' * tsz c' + k % tsz c' = k := by rw [Nat.mul_comm]; exact Nat.div_add_mod k _
        have e4 : ((cs.drop (k / tsz c' * tsz c')).take (tsz c')).getD (k % tsz c') undef = cs.getD k undef := by
          simp only [List.getD_eq_getElem?_getD, List.getElem?_take, if_pos hr, List.getElem?_drop, e3]
        rw [e4] at h7
        exact h7
    | st s =>
      obtain ⟨ids, hk, hids⟩ := hk
      rw [hk] at hu
      simp only at hu
      obtain ⟨fs, hu1, hof, htf, _⟩ := hu
      obtain ⟨xs', n, hn, _, hl, hlen, hf⟩ := DataW.trod_struct hu1 h
      obtain rfl : fuel = n := by omega
      have hcl : cs.length = tsz (.st s) := by rw [hl, cellsOf_tsz hΘ tc]
      have hfl : fs.size = (tys s).length := by
        have h1 := congrArg List.length htf
        have h2 := congrArg List.length hids
        simp at h1 h2; omega
      have hol := soffs_len s
      -- each field
      have each : ∀ (j : Nat) (c' : Ty), (tys s)[j]? = some c' → ∃ o, (soffs s)[j]? = some o ∧ ∃ (x : den c') (tr : Tr), Opn W ((cs.drop o).take (tsz c')) c' x tr := by
        intro j c' hj
        have hjl : j < (tys s).length := (List.getElem?_eq_some_iff.1 hj).1
        have hfj : fs[j]? = some (fs[j]'(by omega)) := by simp
        have h1 := hf j _ hfj
        have h2 : xs'[j]? = some (xs'[j]'(by omega)) := by simp
        rw [h2] at h1
        have ho : (soffs s)[j]? = some (fs[j]'(by omega)).offset := by
          rw [← hof, List.getElem?_map]; simp [hfl, hjl]
        have hid : tyOf (fs[j]'(by omega)).type = some c' := by
          have h3 : ids[j]? = some (fs[j]'(by omega)).type := by rw [← htf, List.getElem?_map]; simp [hfl, hjl]
          have h4 := congrArg (·[j]?) hids
          simp only [List.getElem?_map, h3, hj, Option.map_some, Option.some.injEq] at h4
          exact h4
        obtain ⟨ej, tej⟩ := hty _ c' hid
        rw [cellsOf_tsz hΘ tej] at h1
        exact ⟨_, ho, ih c' _ _ _ hid h1⟩
      have build : ∀ (cs' : List Ty) (k : Nat), (∀ j c', cs'[j]? = some c' → (tys s)[k + j]? = some c') → ∃ (hh : HL cs') (ts : List Tr), ts.length = cs'.length ∧ ∀ (j : Nat) p tr, (hparts cs' hh)[j]? = some p → ts[j]? = some tr → ∃ o, (soffs s)[k + j]? = some o ∧ Opn W ((cs.drop o).take (tsz p.1)) p.1 p.2 tr := by
        intro cs'
        induction cs' with
        | nil => intro k _; exact ⟨(), [], rfl, fun j p tr h => by simp [hparts] at h⟩
        | cons c' cs' ihc =>
          intro k hk'
          obtain ⟨hh, ts, h1, h2⟩ := ihc (k + 1) fun j c'' hj => by
            have := hk' (j + 1) c'' (by simpa using hj)
            rw [← this]; congr 1; omega
          obtain ⟨o, ho, x, tr, hop⟩ := each k c' (by have := hk' 0 c' rfl; simpa using this)
          refine ⟨(x, hh), tr :: ts, by simp [h1], fun j p tr' hp ht => ?_⟩
          cases j with
          | zero =>
            simp only [hparts, List.getElem?_cons_zero, Option.some.injEq] at hp ht
            subst hp ht
            exact ⟨o, ho, hop⟩
          | succ j =>
            obtain ⟨o', h3, h4⟩ := h2 j p tr' (by simpa [hparts] using hp) (by simpa using ht)
            refine ⟨o', ?_, h4⟩
            rw [← h3]; congr 1; omega
      obtain ⟨hh, ts, hts, hR⟩ := build (tys s) 0 fun j c' hj => by rw [Nat.zero_add]; exact hj
      have hpl : (hparts (tys s) hh).length = (tys s).length := by rw [← List.length_map (f := (·.1)), hparts_tys]
      have hparts' : parts s (ofH s hh) = hparts (tys s) hh := by unfold parts; rw [toH_ofH]
      have getj : ∀ (j : Nat) tr, ts[j]? = some tr → ∃ p o, (hparts (tys s) hh)[j]? = some p ∧ (soffs s)[j]? = some o ∧ Opn W ((cs.drop o).take (tsz p.1)) p.1 p.2 tr := by
        intro j tr ht
        have hjl : j < ts.length := (List.getElem?_eq_some_iff.1 ht).1
        have hp : (hparts (tys s) hh)[j]? = some ((hparts (tys s) hh)[j]'(by omega)) := by simp
        obtain ⟨o, h1, h2⟩ := hR j _ tr hp ht
        rw [Nat.zero_add] at h1
        exact ⟨_, o, hp, h1, h2⟩
      have hwf : ∀ tr ∈ ts, tr.wf := by
        intro tr htr
        obtain ⟨j, hj, rfl⟩ := List.mem_iff_getElem.1 htr
        obtain ⟨p, o, _, _, h3⟩ := getj j _ (List.getElem?_eq_getElem hj)
        exact h3.wf
      have hzok := tc.zok
      simp only [tzOK, List.all_eq_true] at hzok
      have hoffs : offsOK (soffs s) ts 0 (ssz s) := by
        refine offsOK_sizes ?_ (offs_zero hΘ tc)
        apply List.ext_getElem?
        intro j
        rw [List.getElem?_map, List.getElem?_map, List.getElem?_map]
        cases ht : ts[j]? with
        | none =>
          have : (tys s)[j]? = none := by
            rw [List.getElem?_eq_none_iff] at ht ⊢; omega
          rw [this]; rfl
        | some tr =>
          obtain ⟨p, o, h1, h2, h3⟩ := getj j tr ht
          have h4 := congrArg (·[j]?) (hparts_tys (tys s) hh)
          simp only [List.getElem?_map, h1, Option.map_some] at h4
          rw [← h4]
          simp only [Option.map_some, Option.some.injEq]
          rw [h3.tv.shape.1, tz_size 8 p.1 (hzok _ (List.mem_of_getElem? h4.symm))]
      refine ⟨ofH s hh, .node (ssz s) (soffs s) ts, .st s _ ts (by rw [hparts', hpl, hts]) (by
        rw [hparts']
        intro j p tr hp ht
        obtain ⟨o, _, h2⟩ := hR j p tr hp ht
        exact h2.tv), .st s _ (by
        rw [hparts']
        intro p hp
        obtain ⟨j, hj, rfl⟩ := List.mem_iff_getElem.1 hp
        have ht : ts[j]? = some (ts[j]'(by omega)) := by simp
        obtain ⟨o, _, h2⟩ := hR j _ _ (List.getElem?_eq_getElem hj) ht
        exact h2.ok), ?_, hcl, fun k l hk2 => ?_⟩
      · simp only [Tr.wf]
        exact ⟨hoffs, (wfL_iff _).2 hwf⟩
      · have := opn_parts (W := W) (cs := cs) (soffs s) ts 0 (ssz s) hoffs hwf (fun j o tr ho ht i l hl2 => by
          obtain ⟨p, o', h1, h2, h3⟩ := getj j tr ht
          have eo : o' = o := Option.some.inj (h2.symm.trans ho)
          subst eo
          have h4 := h3.vr i l hl2
          have hi : i < tsz p.1 := by
            rw [← h3.tv.shape.1, ← leaves_length tr h3.wf]; exact (List.getElem?_eq_some_iff.1 hl2).1
          have e4 : ((cs.drop o').take (tsz p.1)).getD i undef = cs.getD (o' + i) undef := by
            simp only [List.getD_eq_getElem?_getD, List.getElem?_take, if_pos hi, List.getElem?_drop]
          rw [e4] at h4
          exact h4) k l hk2
        rw [Nat.zero_add] at this
        exact this
end
end Go.Proofs.Ytnonimnhninafaa.Ab

/- The types of the translation, as the calculus knows them; by a program of the session (gentab.py). -/
namespace Go.Proofs.Ytnonimnhninafaa.Ab
open Go

def z1 : Tr := .nilf
def z2 : Tr := .int .i64 0
def z3 : Tr := .int .i64 0
def z4 : Tr := .bool false
def z5 : Tr := .int .u8 0
def z6 : Tr := .int .u8 0
def z9 : Tr := .str ByteArray.empty
def z10 : Tr := .str ByteArray.empty
def z11 : Tr := .str ByteArray.empty
def z12 : Tr := .int .u64 0
def z15 : Tr := .nilp
def z16 : Tr := .nilp
def z17 : Tr := .nilp
def z21 : Tr := .int .i32 0
def z22 : Tr := .nils
def z23 : Tr := .nilf
def z24 : Tr := .int .i64 0
def z25 : Tr := .node 3 [0, 1, 2] [z3, z3, z3]
def z26 : Tr := .node 3 [0, 1, 2] [z3, z3, z3]
def z27 : Tr := .node 10 [0, 1, 2, 5, 8, 9] [z24, z4, z26, z26, z3, z3]
def z28 : Tr := .node 10 [0, 1, 2, 5, 8, 9] [z24, z4, z26, z26, z3, z3]
def z30 : Tr := .nilf
def z31 : Tr := .nilf
def z32 : Tr := .int .i64 0
def z34 : Tr := .nilf
def z35 : Tr := .nilf
def z36 : Tr := .nilf
def z37 : Tr := .nilf
def z38 : Tr := .int .u16 0
def z39 : Tr := .nilf
def z40 : Tr := .nilf
def z41 : Tr := .nilf
def z42 : Tr := .node 2 [0, 1] [z22, z22]
def z43 : Tr := .node 2 [0, 1] [z22, z22]
def z44 : Tr := .nilf
def z45 : Tr := .nils
def z46 : Tr := .node 2 [0, 1] [z3, z45]
def z47 : Tr := .node 2 [0, 1] [z3, z45]
def z48 : Tr := .nilf
def z49 : Tr := .arr 1 (List.replicate 6 z3)
def z50 : Tr := .arr 1 (List.replicate 2 z3)
def z51 : Tr := .node 10 [0, 6, 8, 9] [z49, z50, z3, z3]
def z52 : Tr := .node 10 [0, 6, 8, 9] [z49, z50, z3, z3]
def z53 : Tr := .node 4 [0, 1, 2, 3] [z3, z3, z3, z4]
def z54 : Tr := .node 4 [0, 1, 2, 3] [z3, z3, z3, z4]
def z55 : Tr := .arr 4 (List.replicate 8 z54)
def z56 : Tr := .arr 32 (List.replicate 2 z55)
def z57 : Tr := .node 67 [0, 1, 65, 66] [z4, z56, z3, z3]
def z58 : Tr := .node 67 [0, 1, 65, 66] [z4, z56, z3, z3]
def z59 : Tr := .node 4 [0, 1, 2, 3] [z4, z4, z3, z3]
def z60 : Tr := .node 4 [0, 1, 2, 3] [z4, z4, z3, z3]
def z61 : Tr := .nils
def z62 : Tr := .nils
def z63 : Tr := .node 2 [0, 1] [z62, z22]
def z64 : Tr := .node 2 [0, 1] [z62, z22]
def z65 : Tr := .node 10 [0, 2, 3, 4, 5, 6, 7, 8, 9] [z64, z4, z4, z4, z3, z3, z3, z3, z3]
def z66 : Tr := .node 10 [0, 2, 3, 4, 5, 6, 7, 8, 9] [z64, z4, z4, z4, z3, z3, z3, z3, z3]
def z67 : Tr := .node 11 [0, 1, 2, 3, 4, 5, 6, 7, 8, 9, 10] [z62, z3, z4, z4, z4, z4, z4, z3, z3, z3, z3]
def z68 : Tr := .node 11 [0, 1, 2, 3, 4, 5, 6, 7, 8, 9, 10] [z62, z3, z4, z4, z4, z4, z4, z3, z3, z3, z3]
def z69 : Tr := .node 110 [0, 10, 11, 12, 79, 83, 84, 94, 105, 106, 107, 108, 109] [z52, z22, z22, z58, z60, z61, z66, z68, z3, z4, z4, z3, z4]
def z70 : Tr := .node 110 [0, 10, 11, 12, 79, 83, 84, 94, 105, 106, 107, 108, 109] [z52, z22, z22, z58, z60, z61, z66, z68, z3, z4, z4, z3, z4]
def z71 : Tr := .nilf
def z72 : Tr := .nilf
def z73 : Tr := .node 12 [0, 1, 2] [z3, z22, z28]
def z74 : Tr := .node 12 [0, 1, 2] [z3, z22, z28]
def z75 : Tr := .nilf
def z76 : Tr := .nilf
def z77 : Tr := .nilf
def z78 : Tr := .nils
def z79 : Tr := .node 4 [0, 1, 2, 3] [z78, z3, z3, z3]
def z80 : Tr := .node 4 [0, 1, 2, 3] [z78, z3, z3, z3]
def z81 : Tr := .nilf
def z82 : Tr := .nilf
def z83 : Tr := .nilf
def z84 : Tr := .nilf
def z86 : Tr := .nilf
def z87 : Tr := .nilf
def z88 : Tr := .nilf
def z89 : Tr := .nilf
def z90 : Tr := .nilf
def z91 : Tr := .nilf
def z92 : Tr := .nilf
def z93 : Tr := .nils
def z94 : Tr := .nils
def z95 : Tr := .nils
def z96 : Tr := .node 2 [0, 1] [z38, z38]
def z97 : Tr := .node 2 [0, 1] [z38, z38]
def z98 : Tr := .nilf
def z99 : Tr := .nilf
def z100 : Tr := .int .i64 0
def z101 : Tr := .node 5 [0, 1, 2, 3, 4] [z3, z3, z24, z100, z4]
def z102 : Tr := .node 5 [0, 1, 2, 3, 4] [z3, z3, z24, z100, z4]
def z104 : Tr := .nilf
def z105 : Tr := .nilf
def z106 : Tr := .nilp
def z107 : Tr := .nils
def z108 : Tr := .nilf
def z109 : Tr := .nilf
def z110 : Tr := .nilf
def z112 : Tr := .nilf
def z113 : Tr := .nilf
def z114 : Tr := .nilf
def z115 : Tr := .nilf
def z116 : Tr := .nilf
def z117 : Tr := .nilf
def z118 : Tr := .nilf
def z119 : Tr := .nilf
def z120 : Tr := .nilf
def z121 : Tr := .nilf
def z123 : Tr := .nilf
def z124 : Tr := .nilf
def z125 : Tr := .nilf
def z126 : Tr := .nilf
def z127 : Tr := .nilf
def z128 : Tr := .arr 5 (List.replicate 56 z102)
def z129 : Tr := .nilf
def z130 : Tr := .int .u64 0
def z131 : Tr := .nilf
def z132 : Tr := .int .i8 0
def z133 : Tr := .nilf
def z134 : Tr := .nilf
def z135 : Tr := .nils
def z136 : Tr := .nilf
def z137 : Tr := .nilf
def z138 : Tr := .nilf
def z139 : Tr := .nilf
def z140 : Tr := .nilf
def z143 : Tr := .arr 1 (List.replicate 0 z16)
def z146 : Tr := .nilf
def z147 : Tr := .int .u32 0
def z148 : Tr := .int .u8 0
def z149 : Tr := .int .u8 0
def z150 : Tr := .nilf
def z151 : Tr := .nilp
def z152 : Tr := .int .i32 0
def z153 : Tr := .int .i32 0
def z156 : Tr := .node 9 [0, 1, 2, 3, 4, 5, 6, 7, 8] [z4, z4, z4, z3, z4, z4, z3, z3, z9]
def z157 : Tr := .node 9 [0, 1, 2, 3, 4, 5, 6, 7, 8] [z4, z4, z4, z3, z4, z4, z3, z3, z9]

def Θ : Tab := fun t => match t with
  | 0 => some ⟨.tuple, 1, 0, .any⟩
  | 1 => some ⟨.func, 1, 8, z1⟩
  | 2 => some ⟨.int .i64, 1, 8, z2⟩
  | 3 => some ⟨.int .i64, 1, 8, z3⟩
  | 4 => some ⟨.bool, 1, 1, z4⟩
  | 5 => some ⟨.int .u8, 1, 1, z5⟩
  | 6 => some ⟨.int .u8, 1, 1, z6⟩
  | 9 => some ⟨.str, 1, 16, z9⟩
  | 10 => some ⟨.str, 1, 16, z10⟩
  | 11 => some ⟨.str, 1, 16, z11⟩
  | 12 => some ⟨.int .u64, 1, 8, z12⟩
  | 15 => some ⟨.ptr 142, 1, 8, z15⟩
  | 16 => some ⟨.ptr 145, 1, 8, z16⟩
  | 17 => some ⟨.ptr 155, 1, 8, z17⟩
  | 20 => some ⟨.other, 1, 16, .any⟩
  | 21 => some ⟨.int .i32, 1, 4, z21⟩
  | 22 => some ⟨.slice 3, 1, 24, z22⟩
  | 23 => some ⟨.func, 1, 8, z23⟩
  | 24 => some ⟨.int .i64, 1, 8, z24⟩
  | 25 => some ⟨.struct [0, 1, 2] [3, 3, 3], 3, 24, z25⟩
  | 26 => some ⟨.struct [0, 1, 2] [3, 3, 3], 3, 24, z26⟩
  | 27 => some ⟨.struct [0, 1, 2, 5, 8, 9] [24, 4, 26, 26, 3, 3], 10, 80, z27⟩
  | 28 => some ⟨.struct [0, 1, 2, 5, 8, 9] [24, 4, 26, 26, 3, 3], 10, 80, z28⟩
  | 29 => some ⟨.tuple, 1, 0, .any⟩
  | 30 => some ⟨.func, 1, 8, z30⟩
  | 31 => some ⟨.func, 1, 8, z31⟩
  | 32 => some ⟨.int .i64, 1, 8, z32⟩
  | 33 => some ⟨.tuple, 1, 0, .any⟩
  | 34 => some ⟨.func, 1, 8, z34⟩
  | 35 => some ⟨.func, 1, 8, z35⟩
  | 36 => some ⟨.func, 1, 8, z36⟩
  | 37 => some ⟨.func, 1, 8, z37⟩
  | 38 => some ⟨.int .u16, 1, 2, z38⟩
  | 39 => some ⟨.func, 1, 8, z39⟩
  | 40 => some ⟨.func, 1, 8, z40⟩
  | 41 => some ⟨.func, 1, 8, z41⟩
  | 42 => some ⟨.struct [0, 1] [22, 22], 2, 48, z42⟩
  | 43 => some ⟨.struct [0, 1] [22, 22], 2, 48, z43⟩
  | 44 => some ⟨.func, 1, 8, z44⟩
  | 45 => some ⟨.slice 74, 1, 24, z45⟩
  | 46 => some ⟨.struct [0, 1] [3, 45], 2, 32, z46⟩
  | 47 => some ⟨.struct [0, 1] [3, 45], 2, 32, z47⟩
  | 48 => some ⟨.func, 1, 8, z48⟩
  | 49 => some ⟨.array 6 3, 6, 48, z49⟩
  | 50 => some ⟨.array 2 3, 2, 16, z50⟩
  | 51 => some ⟨.struct [0, 6, 8, 9] [49, 50, 3, 3], 10, 80, z51⟩
  | 52 => some ⟨.struct [0, 6, 8, 9] [49, 50, 3, 3], 10, 80, z52⟩
  | 53 => some ⟨.struct [0, 1, 2, 3] [3, 3, 3, 4], 4, 32, z53⟩
  | 54 => some ⟨.struct [0, 1, 2, 3] [3, 3, 3, 4], 4, 32, z54⟩
  | 55 => some ⟨.array 8 54, 32, 256, z55⟩
  | 56 => some ⟨.array 2 55, 64, 512, z56⟩
  | 57 => some ⟨.struct [0, 1, 65, 66] [4, 56, 3, 3], 67, 536, z57⟩
  | 58 => some ⟨.struct [0, 1, 65, 66] [4, 56, 3, 3], 67, 536, z58⟩
  | 59 => some ⟨.struct [0, 1, 2, 3] [4, 4, 3, 3], 4, 24, z59⟩
  | 60 => some ⟨.struct [0, 1, 2, 3] [4, 4, 3, 3], 4, 24, z60⟩
  | 61 => some ⟨.slice 157, 1, 24, z61⟩
  | 62 => some ⟨.slice 9, 1, 24, z62⟩
  | 63 => some ⟨.struct [0, 1] [62, 22], 2, 48, z63⟩
  | 64 => some ⟨.struct [0, 1] [62, 22], 2, 48, z64⟩
  | 65 => some ⟨.struct [0, 2, 3, 4, 5, 6, 7, 8, 9] [64, 4, 4, 4, 3, 3, 3, 3, 3], 10, 96, z65⟩
  | 66 => some ⟨.struct [0, 2, 3, 4, 5, 6, 7, 8, 9] [64, 4, 4, 4, 3, 3, 3, 3, 3], 10, 96, z66⟩
  | 67 => some ⟨.struct [0, 1, 2, 3, 4, 5, 6, 7, 8, 9, 10] [62, 3, 4, 4, 4, 4, 4, 3, 3, 3, 3], 11, 72, z67⟩
  | 68 => some ⟨.struct [0, 1, 2, 3, 4, 5, 6, 7, 8, 9, 10] [62, 3, 4, 4, 4, 4, 4, 3, 3, 3, 3], 11, 72, z68⟩
  | 69 => some ⟨.struct [0, 10, 11, 12, 79, 83, 84, 94, 105, 106, 107, 108, 109] [52, 22, 22, 58, 60, 61, 66, 68, 3, 4, 4, 3, 4], 110, 912, z69⟩
  | 70 => some ⟨.struct [0, 10, 11, 12, 79, 83, 84, 94, 105, 106, 107, 108, 109] [52, 22, 22, 58, 60, 61, 66, 68, 3, 4, 4, 3, 4], 110, 912, z70⟩
  | 71 => some ⟨.func, 1, 8, z71⟩
  | 72 => some ⟨.func, 1, 8, z72⟩
  | 73 => some ⟨.struct [0, 1, 2] [3, 22, 28], 12, 112, z73⟩
  | 74 => some ⟨.struct [0, 1, 2] [3, 22, 28], 12, 112, z74⟩
  | 75 => some ⟨.func, 1, 8, z75⟩
  | 76 => some ⟨.func, 1, 8, z76⟩
  | 77 => some ⟨.func, 1, 8, z77⟩
  | 78 => some ⟨.slice 47, 1, 24, z78⟩
  | 79 => some ⟨.struct [0, 1, 2, 3] [78, 3, 3, 3], 4, 48, z79⟩
  | 80 => some ⟨.struct [0, 1, 2, 3] [78, 3, 3, 3], 4, 48, z80⟩
  | 81 => some ⟨.func, 1, 8, z81⟩
  | 82 => some ⟨.func, 1, 8, z82⟩
  | 83 => some ⟨.func, 1, 8, z83⟩
  | 84 => some ⟨.func, 1, 8, z84⟩
  | 85 => some ⟨.tuple, 1, 0, .any⟩
  | 86 => some ⟨.func, 1, 8, z86⟩
  | 87 => some ⟨.func, 1, 8, z87⟩
  | 88 => some ⟨.func, 1, 8, z88⟩
  | 89 => some ⟨.func, 1, 8, z89⟩
  | 90 => some ⟨.func, 1, 8, z90⟩
  | 91 => some ⟨.func, 1, 8, z91⟩
  | 92 => some ⟨.func, 1, 8, z92⟩
  | 93 => some ⟨.slice 38, 1, 24, z93⟩
  | 94 => some ⟨.slice 97, 1, 24, z94⟩
  | 95 => some ⟨.slice 4, 1, 24, z95⟩
  | 96 => some ⟨.struct [0, 1] [38, 38], 2, 4, z96⟩
  | 97 => some ⟨.struct [0, 1] [38, 38], 2, 4, z97⟩
  | 98 => some ⟨.func, 1, 8, z98⟩
  | 99 => some ⟨.func, 1, 8, z99⟩
  | 100 => some ⟨.int .i64, 1, 8, z100⟩
  | 101 => some ⟨.struct [0, 1, 2, 3, 4] [3, 3, 24, 100, 4], 5, 40, z101⟩
  | 102 => some ⟨.struct [0, 1, 2, 3, 4] [3, 3, 24, 100, 4], 5, 40, z102⟩
  | 103 => some ⟨.tuple, 1, 0, .any⟩
  | 104 => some ⟨.func, 1, 8, z104⟩
  | 105 => some ⟨.func, 1, 8, z105⟩
  | 106 => some ⟨.ptr 26, 1, 8, z106⟩
  | 107 => some ⟨.slice 106, 1, 24, z107⟩
  | 108 => some ⟨.func, 1, 8, z108⟩
  | 109 => some ⟨.func, 1, 8, z109⟩
  | 110 => some ⟨.func, 1, 8, z110⟩
  | 111 => some ⟨.tuple, 1, 0, .any⟩
  | 112 => some ⟨.func, 1, 8, z112⟩
  | 113 => some ⟨.func, 1, 8, z113⟩
  | 114 => some ⟨.func, 1, 8, z114⟩
  | 115 => some ⟨.func, 1, 8, z115⟩
  | 116 => some ⟨.func, 1, 8, z116⟩
  | 117 => some ⟨.func, 1, 8, z117⟩
  | 118 => some ⟨.func, 1, 8, z118⟩
  | 119 => some ⟨.func, 1, 8, z119⟩
  | 120 => some ⟨.func, 1, 8, z120⟩
  | 121 => some ⟨.func, 1, 8, z121⟩
  | 122 => some ⟨.tuple, 1, 0, .any⟩
  | 123 => some ⟨.func, 1, 8, z123⟩
  | 124 => some ⟨.func, 1, 8, z124⟩
  | 125 => some ⟨.func, 1, 8, z125⟩
  | 126 => some ⟨.func, 1, 8, z126⟩
  | 127 => some ⟨.func, 1, 8, z127⟩
  | 128 => some ⟨.array 56 102, 280, 2240, z128⟩
  | 129 => some ⟨.func, 1, 8, z129⟩
  | 130 => some ⟨.int .u64, 1, 8, z130⟩
  | 131 => some ⟨.func, 1, 8, z131⟩
  | 132 => some ⟨.int .i8, 1, 1, z132⟩
  | 133 => some ⟨.func, 1, 8, z133⟩
  | 134 => some ⟨.func, 1, 8, z134⟩
  | 135 => some ⟨.slice 26, 1, 24, z135⟩
  | 136 => some ⟨.func, 1, 8, z136⟩
  | 137 => some ⟨.func, 1, 8, z137⟩
  | 138 => some ⟨.func, 1, 8, z138⟩
  | 139 => some ⟨.func, 1, 8, z139⟩
  | 140 => some ⟨.func, 1, 8, z140⟩
  | 143 => some ⟨.array 0 16, 0, 0, z143⟩
  | 146 => some ⟨.func, 1, 8, z146⟩
  | 147 => some ⟨.int .u32, 1, 4, z147⟩
  | 148 => some ⟨.int .u8, 1, 1, z148⟩
  | 149 => some ⟨.int .u8, 1, 1, z149⟩
  | 150 => some ⟨.func, 1, 8, z150⟩
  | 151 => some ⟨.ptr 5, 1, 8, z151⟩
  | 152 => some ⟨.int .i32, 1, 4, z152⟩
  | 153 => some ⟨.int .i32, 1, 4, z153⟩
  | 156 => some ⟨.struct [0, 1, 2, 3, 4, 5, 6, 7, 8] [4, 4, 4, 3, 4, 4, 3, 3, 9], 9, 56, z156⟩
  | 157 => some ⟨.struct [0, 1, 2, 3, 4, 5, 6, 7, 8] [4, 4, 4, 3, 4, 4, 3, 3, 9], 9, 56, z157⟩
  | 158 => some ⟨.other, 1, 8, .any⟩
  | _ => none


theorem ty0 : TyOK Try.prog 0 ⟨.tuple, 1, 0, .any⟩ := ⟨TyOK.info_any (inf := Try.t0) (by kernel_rfl) rfl rfl rfl, ⟨_, Try.underlying0⟩⟩
theorem ty1 : TyOK Try.prog 1 ⟨.func, 1, 8, z1⟩ := ⟨TyOK.info_of (inf := Try.t1) (by kernel_rfl) rfl rfl (by kernel_rfl) rfl (by kernel_rfl), ⟨_, _, _, Try.underlying1⟩⟩
theorem ty2 : TyOK Try.prog 2 ⟨.int .i64, 1, 8, z2⟩ := ⟨TyOK.info_of (inf := Try.t2) (by kernel_rfl) rfl rfl (by kernel_rfl) rfl (by kernel_rfl), Try.underlying2⟩
theorem ty3 : TyOK Try.prog 3 ⟨.int .i64, 1, 8, z3⟩ := ⟨TyOK.info_of (inf := Try.t3) (by kernel_rfl) rfl rfl (by kernel_rfl) rfl (by kernel_rfl), Try.underlying3⟩
theorem ty4 : TyOK Try.prog 4 ⟨.bool, 1, 1, z4⟩ := ⟨TyOK.info_of (inf := Try.t4) (by kernel_rfl) rfl rfl (by kernel_rfl) rfl (by kernel_rfl), Try.underlying4⟩
theorem ty5 : TyOK Try.prog 5 ⟨.int .u8, 1, 1, z5⟩ := ⟨TyOK.info_of (inf := Try.t5) (by kernel_rfl) rfl rfl (by kernel_rfl) rfl (by kernel_rfl), Try.underlying5⟩
theorem ty6 : TyOK Try.prog 6 ⟨.int .u8, 1, 1, z6⟩ := ⟨TyOK.info_of (inf := Try.t6) (by kernel_rfl) rfl rfl (by kernel_rfl) rfl (by kernel_rfl), Try.underlying6⟩
theorem ty9 : TyOK Try.prog 9 ⟨.str, 1, 16, z9⟩ := ⟨TyOK.info_of (inf := Try.t9) (by kernel_rfl) rfl rfl (by kernel_rfl) rfl (by kernel_rfl), Try.underlying9⟩
theorem ty10 : TyOK Try.prog 10 ⟨.str, 1, 16, z10⟩ := ⟨TyOK.info_of (inf := Try.t10) (by kernel_rfl) rfl rfl (by kernel_rfl) rfl (by kernel_rfl), Try.underlying10⟩
theorem ty11 : TyOK Try.prog 11 ⟨.str, 1, 16, z11⟩ := ⟨TyOK.info_of (inf := Try.t11) (by kernel_rfl) rfl rfl (by kernel_rfl) rfl (by kernel_rfl), Try.underlying11⟩
theorem ty12 : TyOK Try.prog 12 ⟨.int .u64, 1, 8, z12⟩ := ⟨TyOK.info_of (inf := Try.t12) (by kernel_rfl) rfl rfl (by kernel_rfl) rfl (by kernel_rfl), Try.underlying12⟩
theorem ty15 : TyOK Try.prog 15 ⟨.ptr 142, 1, 8, z15⟩ := ⟨TyOK.info_of (inf := Try.t15) (by kernel_rfl) rfl rfl (by kernel_rfl) rfl (by kernel_rfl), Try.underlying15⟩
theorem ty16 : TyOK Try.prog 16 ⟨.ptr 145, 1, 8, z16⟩ := ⟨TyOK.info_of (inf := Try.t16) (by kernel_rfl) rfl rfl (by kernel_rfl) rfl (by kernel_rfl), Try.underlying16⟩
theorem ty17 : TyOK Try.prog 17 ⟨.ptr 155, 1, 8, z17⟩ := ⟨TyOK.info_of (inf := Try.t17) (by kernel_rfl) rfl rfl (by kernel_rfl) rfl (by kernel_rfl), Try.underlying17⟩
theorem ty20 : TyOK Try.prog 20 ⟨.other, 1, 16, .any⟩ := ⟨TyOK.info_any (inf := Try.t20) (by kernel_rfl) rfl rfl rfl, ⟨_, Try.underlying20, rfl⟩⟩
theorem ty21 : TyOK Try.prog 21 ⟨.int .i32, 1, 4, z21⟩ := ⟨TyOK.info_of (inf := Try.t21) (by kernel_rfl) rfl rfl (by kernel_rfl) rfl (by kernel_rfl), Try.underlying21⟩
theorem ty22 : TyOK Try.prog 22 ⟨.slice 3, 1, 24, z22⟩ := ⟨TyOK.info_of (inf := Try.t22) (by kernel_rfl) rfl rfl (by kernel_rfl) rfl (by kernel_rfl), Try.underlying22⟩
theorem ty23 : TyOK Try.prog 23 ⟨.func, 1, 8, z23⟩ := ⟨TyOK.info_of (inf := Try.t23) (by kernel_rfl) rfl rfl (by kernel_rfl) rfl (by kernel_rfl), ⟨_, _, _, Try.underlying23⟩⟩
theorem ty24 : TyOK Try.prog 24 ⟨.int .i64, 1, 8, z24⟩ := ⟨TyOK.info_of (inf := Try.t24) (by kernel_rfl) rfl rfl (by kernel_rfl) rfl (by kernel_rfl), Try.underlying24⟩
theorem ty25 : TyOK Try.prog 25 ⟨.struct [0, 1, 2] [3, 3, 3], 3, 24, z25⟩ := ⟨TyOK.info_of (inf := Try.t25) (by kernel_rfl) rfl rfl (by kernel_rfl) rfl (by kernel_rfl), ⟨_, Try.underlying25, rfl, rfl, by kernel_rfl, by decide, by kernel_rfl⟩⟩
theorem ty26 : TyOK Try.prog 26 ⟨.struct [0, 1, 2] [3, 3, 3], 3, 24, z26⟩ := ⟨TyOK.info_of (inf := Try.t26) (by kernel_rfl) rfl rfl (by kernel_rfl) rfl (by kernel_rfl), ⟨_, Try.underlying26, rfl, rfl, by kernel_rfl, by decide, by kernel_rfl⟩⟩
theorem ty27 : TyOK Try.prog 27 ⟨.struct [0, 1, 2, 5, 8, 9] [24, 4, 26, 26, 3, 3], 10, 80, z27⟩ := ⟨TyOK.info_of (inf := Try.t27) (by kernel_rfl) rfl rfl (by kernel_rfl) rfl (by kernel_rfl), ⟨_, Try.underlying27, rfl, rfl, by kernel_rfl, by decide, by kernel_rfl⟩⟩
theorem ty28 : TyOK Try.prog 28 ⟨.struct [0, 1, 2, 5, 8, 9] [24, 4, 26, 26, 3, 3], 10, 80, z28⟩ := ⟨TyOK.info_of (inf := Try.t28) (by kernel_rfl) rfl rfl (by kernel_rfl) rfl (by kernel_rfl), ⟨_, Try.underlying28, rfl, rfl, by kernel_rfl, by decide, by kernel_rfl⟩⟩
theorem ty29 : TyOK Try.prog 29 ⟨.tuple, 1, 0, .any⟩ := ⟨TyOK.info_any (inf := Try.t29) (by kernel_rfl) rfl rfl rfl, ⟨_, Try.underlying29⟩⟩
theorem ty30 : TyOK Try.prog 30 ⟨.func, 1, 8, z30⟩ := ⟨TyOK.info_of (inf := Try.t30) (by kernel_rfl) rfl rfl (by kernel_rfl) rfl (by kernel_rfl), ⟨_, _, _, Try.underlying30⟩⟩
theorem ty31 : TyOK Try.prog 31 ⟨.func, 1, 8, z31⟩ := ⟨TyOK.info_of (inf := Try.t31) (by kernel_rfl) rfl rfl (by kernel_rfl) rfl (by kernel_rfl), ⟨_, _, _, Try.underlying31⟩⟩
theorem ty32 : TyOK Try.prog 32 ⟨.int .i64, 1, 8, z32⟩ := ⟨TyOK.info_of (inf := Try.t32) (by kernel_rfl) rfl rfl (by kernel_rfl) rfl (by kernel_rfl), Try.underlying32⟩
theorem ty33 : TyOK Try.prog 33 ⟨.tuple, 1, 0, .any⟩ := ⟨TyOK.info_any (inf := Try.t33) (by kernel_rfl) rfl rfl rfl, ⟨_, Try.underlying33⟩⟩
theorem ty34 : TyOK Try.prog 34 ⟨.func, 1, 8, z34⟩ := ⟨TyOK.info_of (inf := Try.t34) (by kernel_rfl) rfl rfl (by kernel_rfl) rfl (by kernel_rfl), ⟨_, _, _, Try.underlying34⟩⟩
theorem ty35 : TyOK Try.prog 35 ⟨.func, 1, 8, z35⟩ := ⟨TyOK.info_of (inf := Try.t35) (by kernel_rfl) rfl rfl (by kernel_rfl) rfl (by kernel_rfl), ⟨_, _, _, Try.underlying35⟩⟩
theorem ty36 : TyOK Try.prog 36 ⟨.func, 1, 8, z36⟩ := ⟨TyOK.info_of (inf := Try.t36) (by kernel_rfl) rfl rfl (by kernel_rfl) rfl (by kernel_rfl), ⟨_, _, _, Try.underlying36⟩⟩
theorem ty37 : TyOK Try.prog 37 ⟨.func, 1, 8, z37⟩ := ⟨TyOK.info_of (inf := Try.t37) (by kernel_rfl) rfl rfl (by kernel_rfl) rfl (by kernel_rfl), ⟨_, _, _, Try.underlying37⟩⟩
theorem ty38 : TyOK Try.prog 38 ⟨.int .u16, 1, 2, z38⟩ := ⟨TyOK.info_of (inf := Try.t38) (by kernel_rfl) rfl rfl (by kernel_rfl) rfl (by kernel_rfl), Try.underlying38⟩
theorem ty39 : TyOK Try.prog 39 ⟨.func, 1, 8, z39⟩ := ⟨TyOK.info_of (inf := Try.t39) (by kernel_rfl) rfl rfl (by kernel_rfl) rfl (by kernel_rfl), ⟨_, _, _, Try.underlying39⟩⟩
theorem ty40 : TyOK Try.prog 40 ⟨.func, 1, 8, z40⟩ := ⟨TyOK.info_of (inf := Try.t40) (by kernel_rfl) rfl rfl (by kernel_rfl) rfl (by kernel_rfl), ⟨_, _, _, Try.underlying40⟩⟩
theorem ty41 : TyOK Try.prog 41 ⟨.func, 1, 8, z41⟩ := ⟨TyOK.info_of (inf := Try.t41) (by kernel_rfl) rfl rfl (by kernel_rfl) rfl (by kernel_rfl), ⟨_, _, _, Try.underlying41⟩⟩
theorem ty42 : TyOK Try.prog 42 ⟨.struct [0, 1] [22, 22], 2, 48, z42⟩ := ⟨TyOK.info_of (inf := Try.t42) (by kernel_rfl) rfl rfl (by kernel_rfl) rfl (by kernel_rfl), ⟨_, Try.underlying42, rfl, rfl, by kernel_rfl, by decide, by kernel_rfl⟩⟩
theorem ty43 : TyOK Try.prog 43 ⟨.struct [0, 1] [22, 22], 2, 48, z43⟩ := ⟨TyOK.info_of (inf := Try.t43) (by kernel_rfl) rfl rfl (by kernel_rfl) rfl (by kernel_rfl), ⟨_, Try.underlying43, rfl, rfl, by kernel_rfl, by decide, by kernel_rfl⟩⟩
theorem ty44 : TyOK Try.prog 44 ⟨.func, 1, 8, z44⟩ := ⟨TyOK.info_of (inf := Try.t44) (by kernel_rfl) rfl rfl (by kernel_rfl) rfl (by kernel_rfl), ⟨_, _, _, Try.underlying44⟩⟩
theorem ty45 : TyOK Try.prog 45 ⟨.slice 74, 1, 24, z45⟩ := ⟨TyOK.info_of (inf := Try.t45) (by kernel_rfl) rfl rfl (by kernel_rfl) rfl (by kernel_rfl), Try.underlying45⟩
theorem ty46 : TyOK Try.prog 46 ⟨.struct [0, 1] [3, 45], 2, 32, z46⟩ := ⟨TyOK.info_of (inf := Try.t46) (by kernel_rfl) rfl rfl (by kernel_rfl) rfl (by kernel_rfl), ⟨_, Try.underlying46, rfl, rfl, by kernel_rfl, by decide, by kernel_rfl⟩⟩
theorem ty47 : TyOK Try.prog 47 ⟨.struct [0, 1] [3, 45], 2, 32, z47⟩ := ⟨TyOK.info_of (inf := Try.t47) (by kernel_rfl) rfl rfl (by kernel_rfl) rfl (by kernel_rfl), ⟨_, Try.underlying47, rfl, rfl, by kernel_rfl, by decide, by kernel_rfl⟩⟩
theorem ty48 : TyOK Try.prog 48 ⟨.func, 1, 8, z48⟩ := ⟨TyOK.info_of (inf := Try.t48) (by kernel_rfl) rfl rfl (by kernel_rfl) rfl (by kernel_rfl), ⟨_, _, _, Try.underlying48⟩⟩
theorem ty49 : TyOK Try.prog 49 ⟨.array 6 3, 6, 48, z49⟩ := ⟨TyOK.info_of (inf := Try.t49) (by kernel_rfl) rfl rfl (by kernel_rfl) rfl (by kernel_rfl), ⟨Try.underlying49, by kernel_rfl⟩⟩
theorem ty50 : TyOK Try.prog 50 ⟨.array 2 3, 2, 16, z50⟩ := ⟨TyOK.info_of (inf := Try.t50) (by kernel_rfl) rfl rfl (by kernel_rfl) rfl (by kernel_rfl), ⟨Try.underlying50, by kernel_rfl⟩⟩
theorem ty51 : TyOK Try.prog 51 ⟨.struct [0, 6, 8, 9] [49, 50, 3, 3], 10, 80, z51⟩ := ⟨TyOK.info_of (inf := Try.t51) (by kernel_rfl) rfl rfl (by kernel_rfl) rfl (by kernel_rfl), ⟨_, Try.underlying51, rfl, rfl, by kernel_rfl, by decide, by kernel_rfl⟩⟩
theorem ty52 : TyOK Try.prog 52 ⟨.struct [0, 6, 8, 9] [49, 50, 3, 3], 10, 80, z52⟩ := ⟨TyOK.info_of (inf := Try.t52) (by kernel_rfl) rfl rfl (by kernel_rfl) rfl (by kernel_rfl), ⟨_, Try.underlying52, rfl, rfl, by kernel_rfl, by decide, by kernel_rfl⟩⟩
theorem ty53 : TyOK Try.prog 53 ⟨.struct [0, 1, 2, 3] [3, 3, 3, 4], 4, 32, z53⟩ := ⟨TyOK.info_of (inf := Try.t53) (by kernel_rfl) rfl rfl (by kernel_rfl) rfl (by kernel_rfl), ⟨_, Try.underlying53, rfl, rfl, by kernel_rfl, by decide, by kernel_rfl⟩⟩
theorem ty54 : TyOK Try.prog 54 ⟨.struct [0, 1, 2, 3] [3, 3, 3, 4], 4, 32, z54⟩ := ⟨TyOK.info_of (inf := Try.t54) (by kernel_rfl) rfl rfl (by kernel_rfl) rfl (by kernel_rfl), ⟨_, Try.underlying54, rfl, rfl, by kernel_rfl, by decide, by kernel_rfl⟩⟩
theorem ty55 : TyOK Try.prog 55 ⟨.array 8 54, 32, 256, z55⟩ := ⟨TyOK.info_of (inf := Try.t55) (by kernel_rfl) rfl rfl (by kernel_rfl) rfl (by kernel_rfl), ⟨Try.underlying55, by kernel_rfl⟩⟩
theorem ty56 : TyOK Try.prog 56 ⟨.array 2 55, 64, 512, z56⟩ := ⟨TyOK.info_of (inf := Try.t56) (by kernel_rfl) rfl rfl (by kernel_rfl) rfl (by kernel_rfl), ⟨Try.underlying56, by kernel_rfl⟩⟩
theorem ty57 : TyOK Try.prog 57 ⟨.struct [0, 1, 65, 66] [4, 56, 3, 3], 67, 536, z57⟩ := ⟨TyOK.info_of (inf := Try.t57) (by kernel_rfl) rfl rfl (by kernel_rfl) rfl (by kernel_rfl), ⟨_, Try.underlying57, rfl, rfl, by kernel_rfl, by decide, by kernel_rfl⟩⟩
theorem ty58 : TyOK Try.prog 58 ⟨.struct [0, 1, 65, 66] [4, 56, 3, 3], 67, 536, z58⟩ := ⟨TyOK.info_of (inf := Try.t58) (by kernel_rfl) rfl rfl (by kernel_rfl) rfl (by kernel_rfl), ⟨_, Try.underlying58, rfl, rfl, by kernel_rfl, by decide, by kernel_rfl⟩⟩
theorem ty59 : TyOK Try.prog 59 ⟨.struct [0, 1, 2, 3] [4, 4, 3, 3], 4, 24, z59⟩ := ⟨TyOK.info_of (inf := Try.t59) (by kernel_rfl) rfl rfl (by kernel_rfl) rfl (by kernel_rfl), ⟨_, Try.underlying59, rfl, rfl, by kernel_rfl, by decide, by kernel_rfl⟩⟩
theorem ty60 : TyOK Try.prog 60 ⟨.struct [0, 1, 2, 3] [4, 4, 3, 3], 4, 24, z60⟩ := ⟨TyOK.info_of (inf := Try.t60) (by kernel_rfl) rfl rfl (by kernel_rfl) rfl (by kernel_rfl), ⟨_, Try.underlying60, rfl, rfl, by kernel_rfl, by decide, by kernel_rfl⟩⟩
theorem ty61 : TyOK Try.prog 61 ⟨.slice 157, 1, 24, z61⟩ := ⟨TyOK.info_of (inf := Try.t61) (by kernel_rfl) rfl rfl (by kernel_rfl) rfl (by kernel_rfl), Try.underlying61⟩
theorem ty62 : TyOK Try.prog 62 ⟨.slice 9, 1, 24, z62⟩ := ⟨TyOK.info_of (inf := Try.t62) (by kernel_rfl) rfl rfl (by kernel_rfl) rfl (by kernel_rfl), Try.underlying62⟩
theorem ty63 : TyOK Try.prog 63 ⟨.struct [0, 1] [62, 22], 2, 48, z63⟩ := ⟨TyOK.info_of (inf := Try.t63) (by kernel_rfl) rfl rfl (by kernel_rfl) rfl (by kernel_rfl), ⟨_, Try.underlying63, rfl, rfl, by kernel_rfl, by decide, by kernel_rfl⟩⟩
theorem ty64 : TyOK Try.prog 64 ⟨.struct [0, 1] [62, 22], 2, 48, z64⟩ := ⟨TyOK.info_of (inf := Try.t64) (by kernel_rfl) rfl rfl (by kernel_rfl) rfl (by kernel_rfl), ⟨_, Try.underlying64, rfl, rfl, by kernel_rfl, by decide, by kernel_rfl⟩⟩
theorem ty65 : TyOK Try.prog 65 ⟨.struct [0, 2, 3, 4, 5, 6, 7, 8, 9] [64, 4, 4, 4, 3, 3, 3, 3, 3], 10, 96, z65⟩ := ⟨TyOK.info_of (inf := Try.t65) (by kernel_rfl) rfl rfl (by kernel_rfl) rfl (by kernel_rfl), ⟨_, Try.underlying65, rfl, rfl, by kernel_rfl, by decide, by kernel_rfl⟩⟩
theorem ty66 : TyOK Try.prog 66 ⟨.struct [0, 2, 3, 4, 5, 6, 7, 8, 9] [64, 4, 4, 4, 3, 3, 3, 3, 3], 10, 96, z66⟩ := ⟨TyOK.info_of (inf := Try.t66) (by kernel_rfl) rfl rfl (by kernel_rfl) rfl (by kernel_rfl), ⟨_, Try.underlying66, rfl, rfl, by kernel_rfl, by decide, by kernel_rfl⟩⟩
theorem ty67 : TyOK Try.prog 67 ⟨.struct [0, 1, 2, 3, 4, 5, 6, 7, 8, 9, 10] [62, 3, 4, 4, 4, 4, 4, 3, 3, 3, 3], 11, 72, z67⟩ := ⟨TyOK.info_of (inf := Try.t67) (by kernel_rfl) rfl rfl (by kernel_rfl) rfl (by kernel_rfl), ⟨_, Try.underlying67, rfl, rfl, by kernel_rfl, by decide, by kernel_rfl⟩⟩
theorem ty68 : TyOK Try.prog 68 ⟨.struct [0, 1, 2, 3, 4, 5, 6, 7, 8, 9, 10] [62, 3, 4, 4, 4, 4, 4, 3, 3, 3, 3], 11, 72, z68⟩ := ⟨TyOK.info_of (inf := Try.t68) (by kernel_rfl) rfl rfl (by kernel_rfl) rfl (by kernel_rfl), ⟨_, Try.underlying68, rfl, rfl, by kernel_rfl, by decide, by kernel_rfl⟩⟩
theorem ty69 : TyOK Try.prog 69 ⟨.struct [0, 10, 11, 12, 79, 83, 84, 94, 105, 106, 107, 108, 109] [52, 22, 22, 58, 60, 61, 66, 68, 3, 4, 4, 3, 4], 110, 912, z69⟩ := ⟨TyOK.info_of (inf := Try.t69) (by kernel_rfl) rfl rfl (by kernel_rfl) rfl (by kernel_rfl), ⟨_, Try.underlying69, rfl, rfl, by kernel_rfl, by decide, by kernel_rfl⟩⟩
theorem ty70 : TyOK Try.prog 70 ⟨.struct [0, 10, 11, 12, 79, 83, 84, 94, 105, 106, 107, 108, 109] [52, 22, 22, 58, 60, 61, 66, 68, 3, 4, 4, 3, 4], 110, 912, z70⟩ := ⟨TyOK.info_of (inf := Try.t70) (by kernel_rfl) rfl rfl (by kernel_rfl) rfl (by kernel_rfl), ⟨_, Try.underlying70, rfl, rfl, by kernel_rfl, by decide, by kernel_rfl⟩⟩
theorem ty71 : TyOK Try.prog 71 ⟨.func, 1, 8, z71⟩ := ⟨TyOK.info_of (inf := Try.t71) (by kernel_rfl) rfl rfl (by kernel_rfl) rfl (by kernel_rfl), ⟨_, _, _, Try.underlying71⟩⟩
theorem ty72 : TyOK Try.prog 72 ⟨.func, 1, 8, z72⟩ := ⟨TyOK.info_of (inf := Try.t72) (by kernel_rfl) rfl rfl (by kernel_rfl) rfl (by kernel_rfl), ⟨_, _, _, Try.underlying72⟩⟩
theorem ty73 : TyOK Try.prog 73 ⟨.struct [0, 1, 2] [3, 22, 28], 12, 112, z73⟩ := ⟨TyOK.info_of (inf := Try.t73) (by kernel_rfl) rfl rfl (by kernel_rfl) rfl (by kernel_rfl), ⟨_, Try.underlying73, rfl, rfl, by kernel_rfl, by decide, by kernel_rfl⟩⟩
theorem ty74 : TyOK Try.prog 74 ⟨.struct [0, 1, 2] [3, 22, 28], 12, 112, z74⟩ := ⟨TyOK.info_of (inf := Try.t74) (by kernel_rfl) rfl rfl (by kernel_rfl) rfl (by kernel_rfl), ⟨_, Try.underlying74, rfl, rfl, by kernel_rfl, by decide, by kernel_rfl⟩⟩
theorem ty75 : TyOK Try.prog 75 ⟨.func, 1, 8, z75⟩ := ⟨TyOK.info_of (inf := Try.t75) (by kernel_rfl) rfl rfl (by kernel_rfl) rfl (by kernel_rfl), ⟨_, _, _, Try.underlying75⟩⟩
theorem ty76 : TyOK Try.prog 76 ⟨.func, 1, 8, z76⟩ := ⟨TyOK.info_of (inf := Try.t76) (by kernel_rfl) rfl rfl (by kernel_rfl) rfl (by kernel_rfl), ⟨_, _, _, Try.underlying76⟩⟩
theorem ty77 : TyOK Try.prog 77 ⟨.func, 1, 8, z77⟩ := ⟨TyOK.info_of (inf := Try.t77) (by kernel_rfl) rfl rfl (by kernel_rfl) rfl (by kernel_rfl), ⟨_, _, _, Try.underlying77⟩⟩
theorem ty78 : TyOK Try.prog 78 ⟨.slice 47, 1, 24, z78⟩ := ⟨TyOK.info_of (inf := Try.t78) (by kernel_rfl) rfl rfl (by kernel_rfl) rfl (by kernel_rfl), Try.underlying78⟩
theorem ty79 : TyOK Try.prog 79 ⟨.struct [0, 1, 2, 3] [78, 3, 3, 3], 4, 48, z79⟩ := ⟨TyOK.info_of (inf := Try.t79) (by kernel_rfl) rfl rfl (by kernel_rfl) rfl (by kernel_rfl), ⟨_, Try.underlying79, rfl, rfl, by kernel_rfl, by decide, by kernel_rfl⟩⟩
theorem ty80 : TyOK Try.prog 80 ⟨.struct [0, 1, 2, 3] [78, 3, 3, 3], 4, 48, z80⟩ := ⟨TyOK.info_of (inf := Try.t80) (by kernel_rfl) rfl rfl (by kernel_rfl) rfl (by kernel_rfl), ⟨_, Try.underlying80, rfl, rfl, by kernel_rfl, by decide, by kernel_rfl⟩⟩
theorem ty81 : TyOK Try.prog 81 ⟨.func, 1, 8, z81⟩ := ⟨TyOK.info_of (inf := Try.t81) (by kernel_rfl) rfl rfl (by kernel_rfl) rfl (by kernel_rfl), ⟨_, _, _, Try.underlying81⟩⟩
theorem ty82 : TyOK Try.prog 82 ⟨.func, 1, 8, z82⟩ := ⟨TyOK.info_of (inf := Try.t82) (by kernel_rfl) rfl rfl (by kernel_rfl) rfl (by kernel_rfl), ⟨_, _, _, Try.underlying82⟩⟩
theorem ty83 : TyOK Try.prog 83 ⟨.func, 1, 8, z83⟩ := ⟨TyOK.info_of (inf := Try.t83) (by kernel_rfl) rfl rfl (by kernel_rfl) rfl (by kernel_rfl), ⟨_, _, _, Try.underlying83⟩⟩
theorem ty84 : TyOK Try.prog 84 ⟨.func, 1, 8, z84⟩ := ⟨TyOK.info_of (inf := Try.t84) (by kernel_rfl) rfl rfl (by kernel_rfl) rfl (by kernel_rfl), ⟨_, _, _, Try.underlying84⟩⟩
theorem ty85 : TyOK Try.prog 85 ⟨.tuple, 1, 0, .any⟩ := ⟨TyOK.info_any (inf := Try.t85) (by kernel_rfl) rfl rfl rfl, ⟨_, Try.underlying85⟩⟩
theorem ty86 : TyOK Try.prog 86 ⟨.func, 1, 8, z86⟩ := ⟨TyOK.info_of (inf := Try.t86) (by kernel_rfl) rfl rfl (by kernel_rfl) rfl (by kernel_rfl), ⟨_, _, _, Try.underlying86⟩⟩
theorem ty87 : TyOK Try.prog 87 ⟨.func, 1, 8, z87⟩ := ⟨TyOK.info_of (inf := Try.t87) (by kernel_rfl) rfl rfl (by kernel_rfl) rfl (by kernel_rfl), ⟨_, _, _, Try.underlying87⟩⟩
theorem ty88 : TyOK Try.prog 88 ⟨.func, 1, 8, z88⟩ := ⟨TyOK.info_of (inf := Try.t88) (by kernel_rfl) rfl rfl (by kernel_rfl) rfl (by kernel_rfl), ⟨_, _, _, Try.underlying88⟩⟩
theorem ty89 : TyOK Try.prog 89 ⟨.func, 1, 8, z89⟩ := ⟨TyOK.info_of (inf := Try.t89) (by kernel_rfl) rfl rfl (by kernel_rfl) rfl (by kernel_rfl), ⟨_, _, _, Try.underlying89⟩⟩
theorem ty90 : TyOK Try.prog 90 ⟨.func, 1, 8, z90⟩ := ⟨TyOK.info_of (inf := Try.t90) (by kernel_rfl) rfl rfl (by kernel_rfl) rfl (by kernel_rfl), ⟨_, _, _, Try.underlying90⟩⟩
theorem ty91 : TyOK Try.prog 91 ⟨.func, 1, 8, z91⟩ := ⟨TyOK.info_of (inf := Try.t91) (by kernel_rfl) rfl rfl (by kernel_rfl) rfl (by kernel_rfl), ⟨_, _, _, Try.underlying91⟩⟩
theorem ty92 : TyOK Try.prog 92 ⟨.func, 1, 8, z92⟩ := ⟨TyOK.info_of (inf := Try.t92) (by kernel_rfl) rfl rfl (by kernel_rfl) rfl (by kernel_rfl), ⟨_, _, _, Try.underlying92⟩⟩
theorem ty93 : TyOK Try.prog 93 ⟨.slice 38, 1, 24, z93⟩ := ⟨TyOK.info_of (inf := Try.t93) (by kernel_rfl) rfl rfl (by kernel_rfl) rfl (by kernel_rfl), Try.underlying93⟩
theorem ty94 : TyOK Try.prog 94 ⟨.slice 97, 1, 24, z94⟩ := ⟨TyOK.info_of (inf := Try.t94) (by kernel_rfl) rfl rfl (by kernel_rfl) rfl (by kernel_rfl), Try.underlying94⟩
theorem ty95 : TyOK Try.prog 95 ⟨.slice 4, 1, 24, z95⟩ := ⟨TyOK.info_of (inf := Try.t95) (by kernel_rfl) rfl rfl (by kernel_rfl) rfl (by kernel_rfl), Try.underlying95⟩
theorem ty96 : TyOK Try.prog 96 ⟨.struct [0, 1] [38, 38], 2, 4, z96⟩ := ⟨TyOK.info_of (inf := Try.t96) (by kernel_rfl) rfl rfl (by kernel_rfl) rfl (by kernel_rfl), ⟨_, Try.underlying96, rfl, rfl, by kernel_rfl, by decide, by kernel_rfl⟩⟩
theorem ty97 : TyOK Try.prog 97 ⟨.struct [0, 1] [38, 38], 2, 4, z97⟩ := ⟨TyOK.info_of (inf := Try.t97) (by kernel_rfl) rfl rfl (by kernel_rfl) rfl (by kernel_rfl), ⟨_, Try.underlying97, rfl, rfl, by kernel_rfl, by decide, by kernel_rfl⟩⟩
theorem ty98 : TyOK Try.prog 98 ⟨.func, 1, 8, z98⟩ := ⟨TyOK.info_of (inf := Try.t98) (by kernel_rfl) rfl rfl (by kernel_rfl) rfl (by kernel_rfl), ⟨_, _, _, Try.underlying98⟩⟩
theorem ty99 : TyOK Try.prog 99 ⟨.func, 1, 8, z99⟩ := ⟨TyOK.info_of (inf := Try.t99) (by kernel_rfl) rfl rfl (by kernel_rfl) rfl (by kernel_rfl), ⟨_, _, _, Try.underlying99⟩⟩
theorem ty100 : TyOK Try.prog 100 ⟨.int .i64, 1, 8, z100⟩ := ⟨TyOK.info_of (inf := Try.t100) (by kernel_rfl) rfl rfl (by kernel_rfl) rfl (by kernel_rfl), Try.underlying100⟩
theorem ty101 : TyOK Try.prog 101 ⟨.struct [0, 1, 2, 3, 4] [3, 3, 24, 100, 4], 5, 40, z101⟩ := ⟨TyOK.info_of (inf := Try.t101) (by kernel_rfl) rfl rfl (by kernel_rfl) rfl (by kernel_rfl), ⟨_, Try.underlying101, rfl, rfl, by kernel_rfl, by decide, by kernel_rfl⟩⟩
theorem ty102 : TyOK Try.prog 102 ⟨.struct [0, 1, 2, 3, 4] [3, 3, 24, 100, 4], 5, 40, z102⟩ := ⟨TyOK.info_of (inf := Try.t102) (by kernel_rfl) rfl rfl (by kernel_rfl) rfl (by kernel_rfl), ⟨_, Try.underlying102, rfl, rfl, by kernel_rfl, by decide, by kernel_rfl⟩⟩
theorem ty103 : TyOK Try.prog 103 ⟨.tuple, 1, 0, .any⟩ := ⟨TyOK.info_any (inf := Try.t103) (by kernel_rfl) rfl rfl rfl, ⟨_, Try.underlying103⟩⟩
theorem ty104 : TyOK Try.prog 104 ⟨.func, 1, 8, z104⟩ := ⟨TyOK.info_of (inf := Try.t104) (by kernel_rfl) rfl rfl (by kernel_rfl) rfl (by kernel_rfl), ⟨_, _, _, Try.underlying104⟩⟩
theorem ty105 : TyOK Try.prog 105 ⟨.func, 1, 8, z105⟩ := ⟨TyOK.info_of (inf := Try.t105) (by kernel_rfl) rfl rfl (by kernel_rfl) rfl (by kernel_rfl), ⟨_, _, _, Try.underlying105⟩⟩
theorem ty106 : TyOK Try.prog 106 ⟨.ptr 26, 1, 8, z106⟩ := ⟨TyOK.info_of (inf := Try.t106) (by kernel_rfl) rfl rfl (by kernel_rfl) rfl (by kernel_rfl), Try.underlying106⟩
theorem ty107 : TyOK Try.prog 107 ⟨.slice 106, 1, 24, z107⟩ := ⟨TyOK.info_of (inf := Try.t107) (by kernel_rfl) rfl rfl (by kernel_rfl) rfl (by kernel_rfl), Try.underlying107⟩
theorem ty108 : TyOK Try.prog 108 ⟨.func, 1, 8, z108⟩ := ⟨TyOK.info_of (inf := Try.t108) (by kernel_rfl) rfl rfl (by kernel_rfl) rfl (by kernel_rfl), ⟨_, _, _, Try.underlying108⟩⟩
theorem ty109 : TyOK Try.prog 109 ⟨.func, 1, 8, z109⟩ := ⟨TyOK.info_of (inf := Try.t109) (by kernel_rfl) rfl rfl (by kernel_rfl) rfl (by kernel_rfl), ⟨_, _, _, Try.underlying109⟩⟩
theorem ty110 : TyOK Try.prog 110 ⟨.func, 1, 8, z110⟩ := ⟨TyOK.info_of (inf := Try.t110) (by kernel_rfl) rfl rfl (by kernel_rfl) rfl (by kernel_rfl), ⟨_, _, _, Try.underlying110⟩⟩
theorem ty111 : TyOK Try.prog 111 ⟨.tuple, 1, 0, .any⟩ := ⟨TyOK.info_any (inf := Try.t111) (by kernel_rfl) rfl rfl rfl, ⟨_, Try.underlying111⟩⟩
theorem ty112 : TyOK Try.prog 112 ⟨.func, 1, 8, z112⟩ := ⟨TyOK.info_of (inf := Try.t112) (by kernel_rfl) rfl rfl (by kernel_rfl) rfl (by kernel_rfl), ⟨_, _, _, Try.underlying112⟩⟩
theorem ty113 : TyOK Try.prog 113 ⟨.func, 1, 8, z113⟩ := ⟨TyOK.info_of (inf := Try.t113) (by kernel_rfl) rfl rfl (by kernel_rfl) rfl (by kernel_rfl), ⟨_, _, _, Try.underlying113⟩⟩
theorem ty114 : TyOK Try.prog 114 ⟨.func, 1, 8, z114⟩ := ⟨TyOK.info_of (inf := Try.t114) (by kernel_rfl) rfl rfl (by kernel_rfl) rfl (by kernel_rfl), ⟨_, _, _, Try.underlying114⟩⟩
theorem ty115 : TyOK Try.prog 115 ⟨.func, 1, 8, z115⟩ := ⟨TyOK.info_of (inf := Try.t115) (by kernel_rfl) rfl rfl (by kernel_rfl) rfl (by kernel_rfl), ⟨_, _, _, Try.underlying115⟩⟩
theorem ty116 : TyOK Try.prog 116 ⟨.func, 1, 8, z116⟩ := ⟨TyOK.info_of (inf := Try.t116) (by kernel_rfl) rfl rfl (by kernel_rfl) rfl (by kernel_rfl), ⟨_, _, _, Try.underlying116⟩⟩
theorem ty117 : TyOK Try.prog 117 ⟨.func, 1, 8, z117⟩ := ⟨TyOK.info_of (inf := Try.t117) (by kernel_rfl) rfl rfl (by kernel_rfl) rfl (by kernel_rfl), ⟨_, _, _, Try.underlying117⟩⟩
theorem ty118 : TyOK Try.prog 118 ⟨.func, 1, 8, z118⟩ := ⟨TyOK.info_of (inf := Try.t118) (by kernel_rfl) rfl rfl (by kernel_rfl) rfl (by kernel_rfl), ⟨_, _, _, Try.underlying118⟩⟩
theorem ty119 : TyOK Try.prog 119 ⟨.func, 1, 8, z119⟩ := ⟨TyOK.info_of (inf := Try.t119) (by kernel_rfl) rfl rfl (by kernel_rfl) rfl (by kernel_rfl), ⟨_, _, _, Try.underlying119⟩⟩
theorem ty120 : TyOK Try.prog 120 ⟨.func, 1, 8, z120⟩ := ⟨TyOK.info_of (inf := Try.t120) (by kernel_rfl) rfl rfl (by kernel_rfl) rfl (by kernel_rfl), ⟨_, _, _, Try.underlying120⟩⟩
theorem ty121 : TyOK Try.prog 121 ⟨.func, 1, 8, z121⟩ := ⟨TyOK.info_of (inf := Try.t121) (by kernel_rfl) rfl rfl (by kernel_rfl) rfl (by kernel_rfl), ⟨_, _, _, Try.underlying121⟩⟩
theorem ty122 : TyOK Try.prog 122 ⟨.tuple, 1, 0, .any⟩ := ⟨TyOK.info_any (inf := Try.t122) (by kernel_rfl) rfl rfl rfl, ⟨_, Try.underlying122⟩⟩
theorem ty123 : TyOK Try.prog 123 ⟨.func, 1, 8, z123⟩ := ⟨TyOK.info_of (inf := Try.t123) (by kernel_rfl) rfl rfl (by kernel_rfl) rfl (by kernel_rfl), ⟨_, _, _, Try.underlying123⟩⟩
theorem ty124 : TyOK Try.prog 124 ⟨.func, 1, 8, z124⟩ := ⟨TyOK.info_of (inf := Try.t124) (by kernel_rfl) rfl rfl (by kernel_rfl) rfl (by kernel_rfl), ⟨_, _, _, Try.underlying124⟩⟩
theorem ty125 : TyOK Try.prog 125 ⟨.func, 1, 8, z125⟩ := ⟨TyOK.info_of (inf := Try.t125) (by kernel_rfl) rfl rfl (by kernel_rfl) rfl (by kernel_rfl), ⟨_, _, _, Try.underlying125⟩⟩
theorem ty126 : TyOK Try.prog 126 ⟨.func, 1, 8, z126⟩ := ⟨TyOK.info_of (inf := Try.t126) (by kernel_rfl) rfl rfl (by kernel_rfl) rfl (by kernel_rfl), ⟨_, _, _, Try.underlying126⟩⟩
theorem ty127 : TyOK Try.prog 127 ⟨.func, 1, 8, z127⟩ := ⟨TyOK.info_of (inf := Try.t127) (by kernel_rfl) rfl rfl (by kernel_rfl) rfl (by kernel_rfl), ⟨_, _, _, Try.underlying127⟩⟩
theorem ty128 : TyOK Try.prog 128 ⟨.array 56 102, 280, 2240, z128⟩ := ⟨TyOK.info_of (inf := Try.t128) (by kernel_rfl) rfl rfl (by kernel_rfl) rfl (by kernel_rfl), ⟨Try.underlying128, by kernel_rfl⟩⟩
theorem ty129 : TyOK Try.prog 129 ⟨.func, 1, 8, z129⟩ := ⟨TyOK.info_of (inf := Try.t129) (by kernel_rfl) rfl rfl (by kernel_rfl) rfl (by kernel_rfl), ⟨_, _, _, Try.underlying129⟩⟩
theorem ty130 : TyOK Try.prog 130 ⟨.int .u64, 1, 8, z130⟩ := ⟨TyOK.info_of (inf := Try.t130) (by kernel_rfl) rfl rfl (by kernel_rfl) rfl (by kernel_rfl), Try.underlying130⟩
theorem ty131 : TyOK Try.prog 131 ⟨.func, 1, 8, z131⟩ := ⟨TyOK.info_of (inf := Try.t131) (by kernel_rfl) rfl rfl (by kernel_rfl) rfl (by kernel_rfl), ⟨_, _, _, Try.underlying131⟩⟩
theorem ty132 : TyOK Try.prog 132 ⟨.int .i8, 1, 1, z132⟩ := ⟨TyOK.info_of (inf := Try.t132) (by kernel_rfl) rfl rfl (by kernel_rfl) rfl (by kernel_rfl), Try.underlying132⟩
theorem ty133 : TyOK Try.prog 133 ⟨.func, 1, 8, z133⟩ := ⟨TyOK.info_of (inf := Try.t133) (by kernel_rfl) rfl rfl (by kernel_rfl) rfl (by kernel_rfl), ⟨_, _, _, Try.underlying133⟩⟩
theorem ty134 : TyOK Try.prog 134 ⟨.func, 1, 8, z134⟩ := ⟨TyOK.info_of (inf := Try.t134) (by kernel_rfl) rfl rfl (by kernel_rfl) rfl (by kernel_rfl), ⟨_, _, _, Try.underlying134⟩⟩
theorem ty135 : TyOK Try.prog 135 ⟨.slice 26, 1, 24, z135⟩ := ⟨TyOK.info_of (inf := Try.t135) (by kernel_rfl) rfl rfl (by kernel_rfl) rfl (by kernel_rfl), Try.underlying135⟩
theorem ty136 : TyOK Try.prog 136 ⟨.func, 1, 8, z136⟩ := ⟨TyOK.info_of (inf := Try.t136) (by kernel_rfl) rfl rfl (by kernel_rfl) rfl (by kernel_rfl), ⟨_, _, _, Try.underlying136⟩⟩
theorem ty137 : TyOK Try.prog 137 ⟨.func, 1, 8, z137⟩ := ⟨TyOK.info_of (inf := Try.t137) (by kernel_rfl) rfl rfl (by kernel_rfl) rfl (by kernel_rfl), ⟨_, _, _, Try.underlying137⟩⟩
theorem ty138 : TyOK Try.prog 138 ⟨.func, 1, 8, z138⟩ := ⟨TyOK.info_of (inf := Try.t138) (by kernel_rfl) rfl rfl (by kernel_rfl) rfl (by kernel_rfl), ⟨_, _, _, Try.underlying138⟩⟩
theorem ty139 : TyOK Try.prog 139 ⟨.func, 1, 8, z139⟩ := ⟨TyOK.info_of (inf := Try.t139) (by kernel_rfl) rfl rfl (by kernel_rfl) rfl (by kernel_rfl), ⟨_, _, _, Try.underlying139⟩⟩
theorem ty140 : TyOK Try.prog 140 ⟨.func, 1, 8, z140⟩ := ⟨TyOK.info_of (inf := Try.t140) (by kernel_rfl) rfl rfl (by kernel_rfl) rfl (by kernel_rfl), ⟨_, _, _, Try.underlying140⟩⟩
theorem ty143 : TyOK Try.prog 143 ⟨.array 0 16, 0, 0, z143⟩ := ⟨TyOK.info_of (inf := Try.t143) (by kernel_rfl) rfl rfl (by kernel_rfl) rfl (by kernel_rfl), ⟨Try.underlying143, by kernel_rfl⟩⟩
theorem ty146 : TyOK Try.prog 146 ⟨.func, 1, 8, z146⟩ := ⟨TyOK.info_of (inf := Try.t146) (by kernel_rfl) rfl rfl (by kernel_rfl) rfl (by kernel_rfl), ⟨_, _, _, Try.underlying146⟩⟩
theorem ty147 : TyOK Try.prog 147 ⟨.int .u32, 1, 4, z147⟩ := ⟨TyOK.info_of (inf := Try.t147) (by kernel_rfl) rfl rfl (by kernel_rfl) rfl (by kernel_rfl), Try.underlying147⟩
theorem ty148 : TyOK Try.prog 148 ⟨.int .u8, 1, 1, z148⟩ := ⟨TyOK.info_of (inf := Try.t148) (by kernel_rfl) rfl rfl (by kernel_rfl) rfl (by kernel_rfl), Try.underlying148⟩
theorem ty149 : TyOK Try.prog 149 ⟨.int .u8, 1, 1, z149⟩ := ⟨TyOK.info_of (inf := Try.t149) (by kernel_rfl) rfl rfl (by kernel_rfl) rfl (by kernel_rfl), Try.underlying149⟩
theorem ty150 : TyOK Try.prog 150 ⟨.func, 1, 8, z150⟩ := ⟨TyOK.info_of (inf := Try.t150) (by kernel_rfl) rfl rfl (by kernel_rfl) rfl (by kernel_rfl), ⟨_, _, _, Try.underlying150⟩⟩
theorem ty151 : TyOK Try.prog 151 ⟨.ptr 5, 1, 8, z151⟩ := ⟨TyOK.info_of (inf := Try.t151) (by kernel_rfl) rfl rfl (by kernel_rfl) rfl (by kernel_rfl), Try.underlying151⟩
theorem ty152 : TyOK Try.prog 152 ⟨.int .i32, 1, 4, z152⟩ := ⟨TyOK.info_of (inf := Try.t152) (by kernel_rfl) rfl rfl (by kernel_rfl) rfl (by kernel_rfl), Try.underlying152⟩
theorem ty153 : TyOK Try.prog 153 ⟨.int .i32, 1, 4, z153⟩ := ⟨TyOK.info_of (inf := Try.t153) (by kernel_rfl) rfl rfl (by kernel_rfl) rfl (by kernel_rfl), Try.underlying153⟩
theorem ty156 : TyOK Try.prog 156 ⟨.struct [0, 1, 2, 3, 4, 5, 6, 7, 8] [4, 4, 4, 3, 4, 4, 3, 3, 9], 9, 56, z156⟩ := ⟨TyOK.info_of (inf := Try.t156) (by kernel_rfl) rfl rfl (by kernel_rfl) rfl (by kernel_rfl), ⟨_, Try.underlying156, rfl, rfl, by kernel_rfl, by decide, by kernel_rfl⟩⟩
theorem ty157 : TyOK Try.prog 157 ⟨.struct [0, 1, 2, 3, 4, 5, 6, 7, 8] [4, 4, 4, 3, 4, 4, 3, 3, 9], 9, 56, z157⟩ := ⟨TyOK.info_of (inf := Try.t157) (by kernel_rfl) rfl rfl (by kernel_rfl) rfl (by kernel_rfl), ⟨_, Try.underlying157, rfl, rfl, by kernel_rfl, by decide, by kernel_rfl⟩⟩
theorem ty158 : TyOK Try.prog 158 ⟨.other, 1, 8, .any⟩ := ⟨TyOK.info_any (inf := Try.t158) (by kernel_rfl) rfl rfl rfl, ⟨_, Try.underlying158, rfl⟩⟩

theorem tabOK : TabOK Try.prog Θ := by
  intro t i h
  unfold Θ at h
  split at h
  · cases h; exact ty0
  · cases h; exact ty1
  · cases h; exact ty2
  · cases h; exact ty3
  · cases h; exact ty4
  · cases h; exact ty5
  · cases h; exact ty6
  · cases h; exact ty9
  · cases h; exact ty10
  · cases h; exact ty11
  · cases h; exact ty12
  · cases h; exact ty15
  · cases h; exact ty16
  · cases h; exact ty17
  · cases h; exact ty20
  · cases h; exact ty21
  · cases h; exact ty22
  · cases h; exact ty23
  · cases h; exact ty24
  · cases h; exact ty25
  · cases h; exact ty26
  · cases h; exact ty27
  · cases h; exact ty28
  · cases h; exact ty29
  · cases h; exact ty30
  · cases h; exact ty31
  · cases h; exact ty32
  · cases h; exact ty33
  · cases h; exact ty34
  · cases h; exact ty35
  · cases h; exact ty36
  · cases h; exact ty37
  · cases h; exact ty38
  · cases h; exact ty39
  · cases h; exact ty40
  · cases h; exact ty41
  · cases h; exact ty42
  · cases h; exact ty43
  · cases h; exact ty44
  · cases h; exact ty45
  · cases h; exact ty46
  · cases h; exact ty47
  · cases h; exact ty48
  · cases h; exact ty49
  · cases h; exact ty50
  · cases h; exact ty51
  · cases h; exact ty52
  · cases h; exact ty53
  · cases h; exact ty54
  · cases h; exact ty55
  · cases h; exact ty56
  · cases h; exact ty57
  · cases h; exact ty58
  · cases h; exact ty59
  · cases h; exact ty60
  · cases h; exact ty61
  · cases h; exact ty62
  · cases h; exact ty63
  · cases h; exact ty64
  · cases h; exact ty65
  · cases h; exact ty66
  · cases h; exact ty67
  · cases h; exact ty68
  · cases h; exact ty69
  · cases h; exact ty70
  · cases h; exact ty71
  · cases h; exact ty72
  · cases h; exact ty73
  · cases h; exact ty74
  · cases h; exact ty75
  · cases h; exact ty76
  · cases h; exact ty77
  · cases h; exact ty78
  · cases h; exact ty79
  · cases h; exact ty80
  · cases h; exact ty81
  · cases h; exact ty82
  · cases h; exact ty83
  · cases h; exact ty84
  · cases h; exact ty85
  · cases h; exact ty86
  · cases h; exact ty87
  · cases h; exact ty88
  · cases h; exact ty89
  · cases h; exact ty90
  · cases h; exact ty91
  · cases h; exact ty92
  · cases h; exact ty93
  · cases h; exact ty94
  · cases h; exact ty95
  · cases h; exact ty96
  · cases h; exact ty97
  · cases h; exact ty98
  · cases h; exact ty99
  · cases h; exact ty100
  · cases h; exact ty101
  · cases h; exact ty102
  · cases h; exact ty103
  · cases h; exact ty104
  · cases h; exact ty105
  · cases h; exact ty106
  · cases h; exact ty107
  · cases h; exact ty108
  · cases h; exact ty109
  · cases h; exact ty110
  · cases h; exact ty111
  · cases h; exact ty112
  · cases h; exact ty113
  · cases h; exact ty114
  · cases h; exact ty115
  · cases h; exact ty116
  · cases h; exact ty117
  · cases h; exact ty118
  · cases h; exact ty119
  · cases h; exact ty120
  · cases h; exact ty121
  · cases h; exact ty122
  · cases h; exact ty123
  · cases h; exact ty124
  · cases h; exact ty125
  · cases h; exact ty126
  · cases h; exact ty127
  · cases h; exact ty128
  · cases h; exact ty129
  · cases h; exact ty130
  · cases h; exact ty131
  · cases h; exact ty132
  · cases h; exact ty133
  · cases h; exact ty134
  · cases h; exact ty135
  · cases h; exact ty136
  · cases h; exact ty137
  · cases h; exact ty138
  · cases h; exact ty139
  · cases h; exact ty140
  · cases h; exact ty143
  · cases h; exact ty146
  · cases h; exact ty147
  · cases h; exact ty148
  · cases h; exact ty149
  · cases h; exact ty150
  · cases h; exact ty151
  · cases h; exact ty152
  · cases h; exact ty153
  · cases h; exact ty156
  · cases h; exact ty157
  · cases h; exact ty158
  · cases h

theorem mixedOK : Try.prog.follows .mixedOrders = true := Try.checked.mixed

end Go.Proofs.Ytnonimnhninafaa.Ab

/- The codes of the types of the translation; by a program of the session (gentyp.py). -/
namespace Go.Proofs.Ytnonimnhninafaa.Ab
open Go
set_option maxRecDepth 20000

def tyOf : TypeId → Option Ty := fun t => match t with
  | 2 => some (.int .i64)
  | 3 => some (.int .i64)
  | 4 => some .bool
  | 5 => some (.int .u8)
  | 6 => some (.int .u8)
  | 9 => some .str
  | 10 => some .str
  | 11 => some .str
  | 12 => some (.int .u64)
  | 21 => some (.int .i32)
  | 22 => some (.sl (.int .i64))
  | 24 => some (.int .i64)
  | 26 => some (.st .sOperand)
  | 28 => some (.st .sInst)
  | 32 => some (.int .i64)
  | 38 => some (.int .u16)
  | 43 => some (.st .sEmulatorlaw21_Memory)
  | 45 => some (.sl (.st .sMicro))
  | 47 => some (.st .sBlock)
  | 49 => some (.arr 6 (.int .i64))
  | 50 => some (.arr 2 (.int .i64))
  | 52 => some (.st .sCpu)
  | 54 => some (.st .sPage)
  | 55 => some (.arr 8 (.st .sPage))
  | 56 => some (.arr 2 (.arr 8 (.st .sPage)))
  | 58 => some (.st .sMmu)
  | 60 => some (.st .sClock)
  | 61 => some (.sl (.st .sLine))
  | 62 => some (.sl .str)
  | 64 => some (.st .sDrive)
  | 66 => some (.st .sDisk)
  | 68 => some (.st .sTape)
  | 70 => some (.st .sMachine)
  | 74 => some (.st .sMicro)
  | 78 => some (.sl (.st .sBlock))
  | 80 => some (.st .sCache)
  | 93 => some (.sl (.int .u16))
  | 94 => some (.sl (.st .sEmulatorlaw21_Change))
  | 95 => some (.sl .bool)
  | 97 => some (.st .sEmulatorlaw21_Change)
  | 100 => some (.int .i64)
  | 102 => some (.st .sInst_form)
  | 128 => some (.arr 56 (.st .sInst_form))
  | 130 => some (.int .u64)
  | 132 => some (.int .i8)
  | 135 => some (.sl (.st .sOperand))
  | 147 => some (.int .u32)
  | 148 => some (.int .u8)
  | 149 => some (.int .u8)
  | 152 => some (.int .i32)
  | 153 => some (.int .i32)
  | 157 => some (.st .sLine)
  | _ => none

theorem tc2 : TyC Θ tyOf 2 (.int .i64) (Option.get (Θ 2) rfl) := ⟨rfl, by kernel_rfl, by kernel_rfl, by kernel_rfl, by kernel_rfl, rfl⟩
theorem tc3 : TyC Θ tyOf 3 (.int .i64) (Option.get (Θ 3) rfl) := ⟨rfl, by kernel_rfl, by kernel_rfl, by kernel_rfl, by kernel_rfl, rfl⟩
theorem tc4 : TyC Θ tyOf 4 .bool (Option.get (Θ 4) rfl) := ⟨rfl, by kernel_rfl, by kernel_rfl, by kernel_rfl, by kernel_rfl, rfl⟩
theorem tc5 : TyC Θ tyOf 5 (.int .u8) (Option.get (Θ 5) rfl) := ⟨rfl, by kernel_rfl, by kernel_rfl, by kernel_rfl, by kernel_rfl, rfl⟩
theorem tc6 : TyC Θ tyOf 6 (.int .u8) (Option.get (Θ 6) rfl) := ⟨rfl, by kernel_rfl, by kernel_rfl, by kernel_rfl, by kernel_rfl, rfl⟩
theorem tc9 : TyC Θ tyOf 9 .str (Option.get (Θ 9) rfl) := ⟨rfl, by kernel_rfl, by kernel_rfl, by kernel_rfl, by kernel_rfl, rfl⟩
theorem tc10 : TyC Θ tyOf 10 .str (Option.get (Θ 10) rfl) := ⟨rfl, by kernel_rfl, by kernel_rfl, by kernel_rfl, by kernel_rfl, rfl⟩
theorem tc11 : TyC Θ tyOf 11 .str (Option.get (Θ 11) rfl) := ⟨rfl, by kernel_rfl, by kernel_rfl, by kernel_rfl, by kernel_rfl, rfl⟩
theorem tc12 : TyC Θ tyOf 12 (.int .u64) (Option.get (Θ 12) rfl) := ⟨rfl, by kernel_rfl, by kernel_rfl, by kernel_rfl, by kernel_rfl, rfl⟩
theorem tc21 : TyC Θ tyOf 21 (.int .i32) (Option.get (Θ 21) rfl) := ⟨rfl, by kernel_rfl, by kernel_rfl, by kernel_rfl, by kernel_rfl, rfl⟩
theorem tc22 : TyC Θ tyOf 22 (.sl (.int .i64)) (Option.get (Θ 22) rfl) := ⟨rfl, by kernel_rfl, by kernel_rfl, by kernel_rfl, by kernel_rfl, ⟨_, rfl, rfl⟩⟩
theorem tc24 : TyC Θ tyOf 24 (.int .i64) (Option.get (Θ 24) rfl) := ⟨rfl, by kernel_rfl, by kernel_rfl, by kernel_rfl, by kernel_rfl, rfl⟩
theorem tc26 : TyC Θ tyOf 26 (.st .sOperand) (Option.get (Θ 26) rfl) := ⟨rfl, by kernel_rfl, by kernel_rfl, by kernel_rfl, by kernel_rfl, ⟨_, rfl, rfl⟩⟩
theorem tc28 : TyC Θ tyOf 28 (.st .sInst) (Option.get (Θ 28) rfl) := ⟨rfl, by kernel_rfl, by kernel_rfl, by kernel_rfl, by kernel_rfl, ⟨_, rfl, rfl⟩⟩
theorem tc32 : TyC Θ tyOf 32 (.int .i64) (Option.get (Θ 32) rfl) := ⟨rfl, by kernel_rfl, by kernel_rfl, by kernel_rfl, by kernel_rfl, rfl⟩
theorem tc38 : TyC Θ tyOf 38 (.int .u16) (Option.get (Θ 38) rfl) := ⟨rfl, by kernel_rfl, by kernel_rfl, by kernel_rfl, by kernel_rfl, rfl⟩
theorem tc43 : TyC Θ tyOf 43 (.st .sEmulatorlaw21_Memory) (Option.get (Θ 43) rfl) := ⟨rfl, by kernel_rfl, by kernel_rfl, by kernel_rfl, by kernel_rfl, ⟨_, rfl, rfl⟩⟩
theorem tc45 : TyC Θ tyOf 45 (.sl (.st .sMicro)) (Option.get (Θ 45) rfl) := ⟨rfl, by kernel_rfl, by kernel_rfl, by kernel_rfl, by kernel_rfl, ⟨_, rfl, rfl⟩⟩
theorem tc47 : TyC Θ tyOf 47 (.st .sBlock) (Option.get (Θ 47) rfl) := ⟨rfl, by kernel_rfl, by kernel_rfl, by kernel_rfl, by kernel_rfl, ⟨_, rfl, rfl⟩⟩
theorem tc49 : TyC Θ tyOf 49 (.arr 6 (.int .i64)) (Option.get (Θ 49) rfl) := ⟨rfl, by kernel_rfl, by kernel_rfl, by kernel_rfl, by kernel_rfl, ⟨_, rfl, rfl⟩⟩
theorem tc50 : TyC Θ tyOf 50 (.arr 2 (.int .i64)) (Option.get (Θ 50) rfl) := ⟨rfl, by kernel_rfl, by kernel_rfl, by kernel_rfl, by kernel_rfl, ⟨_, rfl, rfl⟩⟩
theorem tc52 : TyC Θ tyOf 52 (.st .sCpu) (Option.get (Θ 52) rfl) := ⟨rfl, by kernel_rfl, by kernel_rfl, by kernel_rfl, by kernel_rfl, ⟨_, rfl, rfl⟩⟩
theorem tc54 : TyC Θ tyOf 54 (.st .sPage) (Option.get (Θ 54) rfl) := ⟨rfl, by kernel_rfl, by kernel_rfl, by kernel_rfl, by kernel_rfl, ⟨_, rfl, rfl⟩⟩
theorem tc55 : TyC Θ tyOf 55 (.arr 8 (.st .sPage)) (Option.get (Θ 55) rfl) := ⟨rfl, by kernel_rfl, by kernel_rfl, by kernel_rfl, by kernel_rfl, ⟨_, rfl, rfl⟩⟩
theorem tc56 : TyC Θ tyOf 56 (.arr 2 (.arr 8 (.st .sPage))) (Option.get (Θ 56) rfl) := ⟨rfl, by kernel_rfl, by kernel_rfl, by kernel_rfl, by kernel_rfl, ⟨_, rfl, rfl⟩⟩
theorem tc58 : TyC Θ tyOf 58 (.st .sMmu) (Option.get (Θ 58) rfl) := ⟨rfl, by kernel_rfl, by kernel_rfl, by kernel_rfl, by kernel_rfl, ⟨_, rfl, rfl⟩⟩
theorem tc60 : TyC Θ tyOf 60 (.st .sClock) (Option.get (Θ 60) rfl) := ⟨rfl, by kernel_rfl, by kernel_rfl, by kernel_rfl, by kernel_rfl, ⟨_, rfl, rfl⟩⟩
theorem tc61 : TyC Θ tyOf 61 (.sl (.st .sLine)) (Option.get (Θ 61) rfl) := ⟨rfl, by kernel_rfl, by kernel_rfl, by kernel_rfl, by kernel_rfl, ⟨_, rfl, rfl⟩⟩
theorem tc62 : TyC Θ tyOf 62 (.sl .str) (Option.get (Θ 62) rfl) := ⟨rfl, by kernel_rfl, by kernel_rfl, by kernel_rfl, by kernel_rfl, ⟨_, rfl, rfl⟩⟩
theorem tc64 : TyC Θ tyOf 64 (.st .sDrive) (Option.get (Θ 64) rfl) := ⟨rfl, by kernel_rfl, by kernel_rfl, by kernel_rfl, by kernel_rfl, ⟨_, rfl, rfl⟩⟩
theorem tc66 : TyC Θ tyOf 66 (.st .sDisk) (Option.get (Θ 66) rfl) := ⟨rfl, by kernel_rfl, by kernel_rfl, by kernel_rfl, by kernel_rfl, ⟨_, rfl, rfl⟩⟩
theorem tc68 : TyC Θ tyOf 68 (.st .sTape) (Option.get (Θ 68) rfl) := ⟨rfl, by kernel_rfl, by kernel_rfl, by kernel_rfl, by kernel_rfl, ⟨_, rfl, rfl⟩⟩
theorem tc70 : TyC Θ tyOf 70 (.st .sMachine) (Option.get (Θ 70) rfl) := ⟨rfl, by kernel_rfl, by kernel_rfl, by kernel_rfl, by kernel_rfl, ⟨_, rfl, rfl⟩⟩
theorem tc74 : TyC Θ tyOf 74 (.st .sMicro) (Option.get (Θ 74) rfl) := ⟨rfl, by kernel_rfl, by kernel_rfl, by kernel_rfl, by kernel_rfl, ⟨_, rfl, rfl⟩⟩
theorem tc78 : TyC Θ tyOf 78 (.sl (.st .sBlock)) (Option.get (Θ 78) rfl) := ⟨rfl, by kernel_rfl, by kernel_rfl, by kernel_rfl, by kernel_rfl, ⟨_, rfl, rfl⟩⟩
theorem tc80 : TyC Θ tyOf 80 (.st .sCache) (Option.get (Θ 80) rfl) := ⟨rfl, by kernel_rfl, by kernel_rfl, by kernel_rfl, by kernel_rfl, ⟨_, rfl, rfl⟩⟩
theorem tc93 : TyC Θ tyOf 93 (.sl (.int .u16)) (Option.get (Θ 93) rfl) := ⟨rfl, by kernel_rfl, by kernel_rfl, by kernel_rfl, by kernel_rfl, ⟨_, rfl, rfl⟩⟩
theorem tc94 : TyC Θ tyOf 94 (.sl (.st .sEmulatorlaw21_Change)) (Option.get (Θ 94) rfl) := ⟨rfl, by kernel_rfl, by kernel_rfl, by kernel_rfl, by kernel_rfl, ⟨_, rfl, rfl⟩⟩
theorem tc95 : TyC Θ tyOf 95 (.sl .bool) (Option.get (Θ 95) rfl) := ⟨rfl, by kernel_rfl, by kernel_rfl, by kernel_rfl, by kernel_rfl, ⟨_, rfl, rfl⟩⟩
theorem tc97 : TyC Θ tyOf 97 (.st .sEmulatorlaw21_Change) (Option.get (Θ 97) rfl) := ⟨rfl, by kernel_rfl, by kernel_rfl, by kernel_rfl, by kernel_rfl, ⟨_, rfl, rfl⟩⟩
theorem tc100 : TyC Θ tyOf 100 (.int .i64) (Option.get (Θ 100) rfl) := ⟨rfl, by kernel_rfl, by kernel_rfl, by kernel_rfl, by kernel_rfl, rfl⟩
theorem tc102 : TyC Θ tyOf 102 (.st .sInst_form) (Option.get (Θ 102) rfl) := ⟨rfl, by kernel_rfl, by kernel_rfl, by kernel_rfl, by kernel_rfl, ⟨_, rfl, rfl⟩⟩
theorem tc128 : TyC Θ tyOf 128 (.arr 56 (.st .sInst_form)) (Option.get (Θ 128) rfl) := ⟨rfl, by kernel_rfl, by kernel_rfl, by kernel_rfl, by kernel_rfl, ⟨_, rfl, rfl⟩⟩
theorem tc130 : TyC Θ tyOf 130 (.int .u64) (Option.get (Θ 130) rfl) := ⟨rfl, by kernel_rfl, by kernel_rfl, by kernel_rfl, by kernel_rfl, rfl⟩
theorem tc132 : TyC Θ tyOf 132 (.int .i8) (Option.get (Θ 132) rfl) := ⟨rfl, by kernel_rfl, by kernel_rfl, by kernel_rfl, by kernel_rfl, rfl⟩
theorem tc135 : TyC Θ tyOf 135 (.sl (.st .sOperand)) (Option.get (Θ 135) rfl) := ⟨rfl, by kernel_rfl, by kernel_rfl, by kernel_rfl, by kernel_rfl, ⟨_, rfl, rfl⟩⟩
theorem tc147 : TyC Θ tyOf 147 (.int .u32) (Option.get (Θ 147) rfl) := ⟨rfl, by kernel_rfl, by kernel_rfl, by kernel_rfl, by kernel_rfl, rfl⟩
theorem tc148 : TyC Θ tyOf 148 (.int .u8) (Option.get (Θ 148) rfl) := ⟨rfl, by kernel_rfl, by kernel_rfl, by kernel_rfl, by kernel_rfl, rfl⟩
theorem tc149 : TyC Θ tyOf 149 (.int .u8) (Option.get (Θ 149) rfl) := ⟨rfl, by kernel_rfl, by kernel_rfl, by kernel_rfl, by kernel_rfl, rfl⟩
theorem tc152 : TyC Θ tyOf 152 (.int .i32) (Option.get (Θ 152) rfl) := ⟨rfl, by kernel_rfl, by kernel_rfl, by kernel_rfl, by kernel_rfl, rfl⟩
theorem tc153 : TyC Θ tyOf 153 (.int .i32) (Option.get (Θ 153) rfl) := ⟨rfl, by kernel_rfl, by kernel_rfl, by kernel_rfl, by kernel_rfl, rfl⟩
theorem tc157 : TyC Θ tyOf 157 (.st .sLine) (Option.get (Θ 157) rfl) := ⟨rfl, by kernel_rfl, by kernel_rfl, by kernel_rfl, by kernel_rfl, ⟨_, rfl, rfl⟩⟩

theorem typOK : TypOK Θ tyOf := by
  intro t c h
  unfold tyOf at h
  split at h
  · cases h; exact ⟨_, tc2⟩
  · cases h; exact ⟨_, tc3⟩
  · cases h; exact ⟨_, tc4⟩
  · cases h; exact ⟨_, tc5⟩
  · cases h; exact ⟨_, tc6⟩
  · cases h; exact ⟨_, tc9⟩
  · cases h; exact ⟨_, tc10⟩
  · cases h; exact ⟨_, tc11⟩
  · cases h; exact ⟨_, tc12⟩
  · cases h; exact ⟨_, tc21⟩
  · cases h; exact ⟨_, tc22⟩
  · cases h; exact ⟨_, tc24⟩
  · cases h; exact ⟨_, tc26⟩
  · cases h; exact ⟨_, tc28⟩
  · cases h; exact ⟨_, tc32⟩
  · cases h; exact ⟨_, tc38⟩
  · cases h; exact ⟨_, tc43⟩
  · cases h; exact ⟨_, tc45⟩
  · cases h; exact ⟨_, tc47⟩
  · cases h; exact ⟨_, tc49⟩
  · cases h; exact ⟨_, tc50⟩
  · cases h; exact ⟨_, tc52⟩
  · cases h; exact ⟨_, tc54⟩
  · cases h; exact ⟨_, tc55⟩
  · cases h; exact ⟨_, tc56⟩
  · cases h; exact ⟨_, tc58⟩
  · cases h; exact ⟨_, tc60⟩
  · cases h; exact ⟨_, tc61⟩
  · cases h; exact ⟨_, tc62⟩
  · cases h; exact ⟨_, tc64⟩
  · cases h; exact ⟨_, tc66⟩
  · cases h; exact ⟨_, tc68⟩
  · cases h; exact ⟨_, tc70⟩
  · cases h; exact ⟨_, tc74⟩
  · cases h; exact ⟨_, tc78⟩
  · cases h; exact ⟨_, tc80⟩
  · cases h; exact ⟨_, tc93⟩
  · cases h; exact ⟨_, tc94⟩
  · cases h; exact ⟨_, tc95⟩
  · cases h; exact ⟨_, tc97⟩
  · cases h; exact ⟨_, tc100⟩
  · cases h; exact ⟨_, tc102⟩
  · cases h; exact ⟨_, tc128⟩
  · cases h; exact ⟨_, tc130⟩
  · cases h; exact ⟨_, tc132⟩
  · cases h; exact ⟨_, tc135⟩
  · cases h; exact ⟨_, tc147⟩
  · cases h; exact ⟨_, tc148⟩
  · cases h; exact ⟨_, tc149⟩
  · cases h; exact ⟨_, tc152⟩
  · cases h; exact ⟨_, tc153⟩
  · cases h; exact ⟨_, tc157⟩
  · cases h

end Go.Proofs.Ytnonimnhninafaa.Ab

/- Tables of contracts; totals. -/
namespace Go.Proofs.Ytnonimnhninafaa.Ab
open Go
set_option linter.unusedVariables false
set_option linter.unusedSimpArgs false

def clist : List (Nat × CE) → FuncId → Option CE
  | [], _ => none
  | (g, c) :: l, f => bif Nat.beq f g then some c else clist l f
theorem cl_nil {P : Program} : ConsOK P (clist []) := fun _ _ h => by cases h
theorem cl_add {P : Program} {g : FuncId} {c : CE} {l : List (Nat × CE)} (h : CEOK P g c) (k : ConsOK P (clist l)) : ConsOK P (clist ((g, c) :: l)) := fun f con hf => by
  unfold clist at hf
  cases hb : Nat.beq f g with
  | true =>
    rw [hb] at hf
    have e := Nat.eq_of_beq_eq_true hb
    subst e
    obtain rfl := Option.some.inj hf
    exact h
  | false => rw [hb] at hf; exact k f con hf
theorem cl_cons {P : Program} {g : FuncId} {c : Con} {l : List (Nat × CE)} (h : ConOK P g c) (k : ConsOK P (clist l)) : ConsOK P (clist ((g, .pure c) :: l)) := cl_add (c := .pure c) h k
def LendOK (P : Program) (f : FuncId) : List PCon → Prop
  | [] => True
  | p :: l => PConOK P f p ∧ LendOK P f l
theorem LendOK.mem {P : Program} {f : FuncId} : ∀ {l : List PCon}, LendOK P f l → ∀ p ∈ l, PConOK P f p
  | q :: l, h, p, hp => by
    rcases List.mem_cons.1 hp with rfl | hp
    · exact h.1
    · exact LendOK.mem h.2 p hp
theorem cl_lend {P : Program} {g : FuncId} {ps : List PCon} {l : List (Nat × CE)} (h : LendOK P g ps) (k : ConsOK P (clist l)) : ConsOK P (clist ((g, .lend ps) :: l)) := cl_add (c := .lend ps) (fun p hp => h.mem p hp) k

def jlist : List (Nat × Nat) → Nat → Option Tmp
  | [], _ => none
  | (g, c) :: l, f => bif Nat.beq f g then some c else jlist l f

def gnil : Nat → Option Seg := fun _ => none
theorem segsOK_nil {P : Program} {nt : Nat} : ∀ c : Code, SegsOK P nt gnil c
  | .seq a b => ⟨segsOK_nil a, segsOK_nil b⟩
  | .cond _ a b => ⟨segsOK_nil a, segsOK_nil b⟩
  | .block _ c => segsOK_nil c
  | .scope c => segsOK_nil c
  | .loop c => ⟨(fun i g _ h => by cases h), segsOK_nil c⟩
  | .skip => trivial
  | .label _ => trivial
  | .ret => trivial
  | .exit _ => trivial
  | .region _ _ _ => trivial
  | .rangeFunc _ _ _ _ => trivial
  | .goto _ => trivial
  | .refuse _ => trivial

def bodyOf (f : Func) : Code := f.body.getD .skip

theorem con_of {f : FuncId} {fn : Func} {C : FuncId → Option CE} {ℓ : Nat → Nat} {J : Nat → Option Tmp} {G : Nat → Option Seg} {N : Nat} {ps rc : List Ty} {m : HL ps → Option (HL rc)} (hC : ConsOK Try.prog C) (hG : SegsOK Try.prog fn.ntmps G (bodyOf fn)) (hd : dOKs ps = true) (hr : dOKs rc = true)
    (hf : Try.prog.funcs[f]? = some fn) (hb : fn.body.isSome = true) (hent : Enters Try.prog f) (hl : Nat.ble ps.length fn.ntmps = true)
    (h : ∀ x, evF Θ tyOf C fn.ntmps ℓ J G N (bodyOf fn) fn.results.toList ps rc x = m x) : ConOK Try.prog f ⟨ps, rc, m⟩ :=
  evF_ok tabOK mixedOK typOK hC hG hd hr hf (by cases hb' : fn.body with
    | none => rw [hb'] at hb; cases hb
    | some c => simp [bodyOf, hb']) rfl rfl hent (Nat.le_of_ble_eq_true hl) h

/-- Labels: each operation's own, but for those that are named. -/
def lmap : List (Nat × Nat) → Nat → Nat
  | [], d => d
  | (a, b) :: l, d => bif Nat.beq a d then b else lmap l d

theorem cond_some {α : Type} (b : Bool) (x y : α) : (bif b then some x else some y) = some (bif b then x else y) := by cases b <;> rfl
theorem cond_prod {α β : Type} (b : Bool) (x y : α) (u v : β) : (bif b then (x, u) else (y, v)) = (bif b then x else y, bif b then u else v) := by cases b <;> rfl
theorem cond_fst {α β : Type} (b : Bool) (p q : α × β) : (bif b then p else q).1 = bif b then p.1 else q.1 := by cases b <;> rfl
theorem cond_snd {α β : Type} (b : Bool) (p q : α × β) : (bif b then p else q).2 = bif b then p.2 else q.2 := by cases b <;> rfl
theorem cond_unit (b : Bool) (u v : Unit) : (bif b then u else v) = () := rfl
theorem cond_ite {α : Type} (b : Bool) (x y : α) : (bif b then x else y) = if b = true then x else y := by cases b <;> rfl
end Go.Proofs.Ytnonimnhninafaa.Ab

/- slices.Clone: a test for nil that has no answer of its own. -/
namespace Go.Proofs.Ytnonimnhninafaa.Ab
open Go
set_option linter.unusedVariables false
set_option linter.unusedSimpArgs false

theorem WP.seq {P : Program} {nt : Nat} {x y : Code} {K : Exit → St → Prop} {s : St} (h : WP P nt x (thenK (WP P nt y K) K) s) : WP P nt (.seq x y) K s := fun M0 M a g => by
  refine wp_seq (wp_mono (h M0 M a g) ?_)
  rintro e a' w' ⟨s', M', rfl, hk, g'⟩
  cases e with
  | normal => exact hk M0 M' a' g'
  | exit id => exact ⟨s', M', rfl, hk, g'⟩
  | goto l => exact ⟨s', M', rfl, hk, g'⟩
  | ret => exact ⟨s', M', rfl, hk, g'⟩
  | panic ch => exact ⟨s', M', rfl, hk, g'⟩
  | outgrown => exact ⟨s', M', rfl, hk, g'⟩

theorem thenK_mono {n n' : St → Prop} {K K' : Exit → St → Prop} (hn : ∀ s, n s → n' s) (hk : ∀ e s, K e s → K' e s) : ∀ e s, thenK n K e s → thenK n' K' e s := fun e s h => by
  cases e with
  | normal => exact hn s h
  | exit id => exact hk _ _ h
  | goto l => exact hk _ _ h
  | ret => exact hk _ _ h
  | panic ch => exact hk _ _ h
  | outgrown => exact hk _ _ h

section
variable {P : Program} {Θ : Tab} {tyOf : TypeId → Option Ty}

theorem equal_nil (d : Nat) {t e : TypeId} (hu : P.underlying t = some (.slice e)) (w : World) (ad : Option Addr) (len cap : Nat) : (Op.equalIn (d + 1) t (.slice ad len cap) (.slice none 0 0)).run P w = .ok ad.isNone w := by
  cases ad <;> simp [Op.equalIn, run_underlying hu]

/-- The test of a slice for nil: what it says is known only if the slice is not empty. -/
theorem WP.nilTest (hΘ : TabOK P Θ) (hm : P.follows .mixedOrders = true) {nt id : Nat} {o1 o2 : Oper} {T E : TypeId} {a x y : Nat} {i : TyI} {s : VSt} {s' : St} (r : Rel s s') {c : Ty} {xs : List (den c)}
    (g1 : o1.guard = none) (d1 : o1.dst = some x) (p1 : o1.op = .move (.tmp a)) (g2 : o2.guard = none) (d2 : o2.dst = some y) (p2 : o2.op = .binOp .eql T (.tmp x) (.const (.slice none 0 0)) T)
    (hi : Θ T = some i) (hk : i.kind = .slice E) (hx : x < nt) (hy : y < nt) (ha : lkT s.T a = .tv (.sl c) xs) :
    WP P nt (.region id #[o1, o2] false) (fun e s2' => e = .normal ∧ ∃ b : Bool, (b = true → xs = []) ∧ Rel ⟨(y, .bool b) :: (x, .tv (.sl c) xs) :: s.T, s.H⟩ s2') s' := fun M0 M act g => by
  have hT : TVR (.sl c) xs (s'.T a) := by
    have := r.T a
    rw [ha] at this
    cases this with
    | tv h => exact h
  have hu : P.underlying T = some (.slice E) := by
    have := (hΘ T i hi).und
    rw [hk] at this
    exact this
  refine wp_region_list ?_
  have w1 : wpop P Θ nt (fun _ => 0) o1 (fun s2 => s2 = ⟨upd s'.T x (s'.T a), s'.H⟩) s' := by
    unfold wpop
    rw [p1]
    simp only [aOp, aOp0, rdOp, d1, dstOK, hx, decide_true, true_and, Option.map_some, putT]
    rfl
  show wpList P #[o1, o2] _ [o1, o2] act M.w
  unfold wpList
  rw [if_pos (by simp [Region.wanted, g1])]
  refine .inl (wpop_sound hΘ w1 g ?_)
  rintro act2 w2 ⟨s2, M2, rfl, rfl, gm⟩
  unfold wpList
  rw [if_pos (by simp [Region.wanted, g2])]
  refine .inl ?_
  have hv := gm.tm x
  simp only [upd_same] at hv
  obtain ⟨ad, cap, len, hval, hnil⟩ : ∃ (ad : Option Addr) (cap len : Nat), act2.tmps.getD x undef = .slice ad len cap ∧ (ad = none → xs = []) ∧ True := by
    generalize hv0 : act2.tmps.getD x undef = v0 at hv
    generalize ht0 : s'.T a = t0 at hT hv
    cases hT with
    | nil => exact ⟨none, 0, 0, hv.nils_inv, fun _ => rfl, trivial⟩
    | sl xs ts hl h =>
      obtain ⟨ad, cap, vs, h1, h2, h3, _⟩ := hv.sl_inv
      refine ⟨ad, cap, _, h1, fun hn => ?_, trivial⟩
      have := h3 hn
      exact List.length_eq_zero_iff.1 (by omega)
  have hrun : (execOp act2.eval o2).run P M2.w = .ok (.value (.bool ad.isNone)) M2.w := by
    have hev : act2.eval (.tmp x) = .slice ad len cap := hval
    have hec : act2.eval (.const (.slice none 0 0)) = .slice none 0 0 := rfl
    have heq : (Op.equal T (.slice ad len cap) (.slice none 0 0)).run P M2.w = .ok ad.isNone M2.w := by
      exact equal_nil 9999 hu M2.w ad len cap
    have hbin : binOp .eql T (.slice ad len cap) (.slice none 0 0) = (do pure (.bool (← Op.equal T (.slice ad len cap) (.slice none 0 0))) : Sem Value) := by
      cases ad <;> rfl
    have hg : (eqGuard .eql T (.tmp x) (.const (.slice none 0 0)) (.slice ad len cap) (.slice none 0 0)).run P M2.w = .ok () M2.w := by
      cases ad <;> simp [eqGuard]
    simp only [execOp, p2, hev, hec, Sem.run_bind, hg, Result.andThen_ok, hbin, heq, Sem.run_pure]
  unfold Oper.wp
  rw [hrun, Oper.upon_value]
  unfold wpList
  refine ⟨_, M2, rfl, ⟨rfl, ad.isNone, fun hb => hnil.1 (by cases ad <;> simp_all), ?_⟩, gm.put gm.ok gm.fr (Mono.refl M2) (x := .bool ad.isNone) (by simp [d2, dstOK, hy]) (.bool _)⟩
  rw [gm.hH]
  refine ⟨fun t => ?_, r.O, r.G⟩
  show FlatR s.cur s'.H (lkT ((y, .bool _) :: (x, .tv (.sl c) xs) :: s.T) t) (putT (upd s'.T x (s'.T a)) o2.dst (.bool _) t)
  rw [d2]
  simp only [lkT_cons, putT, upd_apply]
  split
  · exact .bool _
  · split
    · exact .tv hT
    · exact r.T t

theorem finF_ok {Θ : Tab} {rs : List ResultVar} {rc : List Ty} {y : HL rc} {e : Exit} {s2 : VSt} {s2' : St} (r2 : Rel s2 s2') (h2 : finF Θ rs rc e s2 = some y) :
    retK Θ rs (fun r H' => ∃ ts : List Tr, r = retOf ts ∧ (ts.map (frz H' fun _ => true)).length = (hparts rc y).length ∧ ∀ (i : Nat) p t, (hparts rc y)[i]? = some p → (ts.map (frz H' fun _ => true))[i]? = some t → TVR p.1 p.2 t) e s2' := by
  have key : ∀ vs, resLV Θ s2 rs = some vs → castXL s2.H vs rc = some y → ∃ xs, resL Θ s2' rs = some xs ∧ ∃ ts : List Tr, retOf xs = retOf ts ∧ (ts.map (frz s2'.H fun _ => true)).length = (hparts rc y).length ∧ ∀ (i : Nat) p t, (hparts rc y)[i]? = some p → (ts.map (frz s2'.H fun _ => true))[i]? = some t → TVR p.1 p.2 t := by
    intro vs h1 h2
    obtain ⟨ts, h3, h4⟩ := resLV_sound r2 h1
    obtain ⟨k1, k2⟩ := castXL_sound (D := fun _ => true) (H0 := s2'.H) vs rc y ts h2 h4 fun d _ => .inr ⟨rfl, r2.O d, rfl⟩
    exact ⟨ts, h3, ts, rfl, k1, k2⟩
  unfold finF at h2
  cases e with
  | normal =>
    dsimp only at h2
    split at h2
    · rename_i vs hvs; exact key vs hvs h2
    · cases h2
  | ret =>
    dsimp only at h2
    split at h2
    · rename_i vs hvs; exact key vs hvs h2
    · cases h2
  | _ => cases h2

/-- What follows the test. -/
def cloneTail : Code → Code
  | .seq _ (.seq (.seq _ d) c) => .seq d c
  | c => c

theorem clone_con {f : FuncId} {fn : Func} {id : Nat} {o1 o2 : Oper} {T E : TypeId} {i : TyI} {c : Ty} {r0 c2 c3 : Code} {ℓ : Nat → Nat} {m : List (den c) → Option (List (den c) × Unit)}
    (hd : dOKs [Ty.sl c] = true) (hf : Try.prog.funcs[f]? = some fn) (hent : Enters Try.prog f) (hb : fn.body = some (.seq r0 (.seq (.seq (.region id #[o1, o2] false) (.cond (.tmp 4) c2 .skip)) c3))) (hl : 1 ≤ fn.ntmps) (h3 : 3 < fn.ntmps) (h4 : 4 < fn.ntmps)
    (g1 : o1.guard = none) (d1 : o1.dst = some 3) (p1 : o1.op = .move (.tmp 0)) (g2 : o2.guard = none) (d2 : o2.dst = some 4) (p2 : o2.op = .binOp .eql T (.tmp 3) (.const (.slice none 0 0)) T)
    (hi : Ab.Θ T = some i) (hk : i.kind = .slice E)
    (e0 : ∀ x : List (den c), evC Ab.Θ Ab.tyOf (clist []) fn.ntmps ℓ (jlist []) gnil 70 r0 ⟨[(0, .tv (.sl c) x)], []⟩ (fun e s => some (e, s)) = some (.normal, ⟨[(2, .nils), (0, .tv (.sl c) x)], []⟩))
    (et : evC Ab.Θ Ab.tyOf (clist []) fn.ntmps ℓ (jlist []) gnil 70 (.seq (.cond (.tmp 4) c2 .skip) c3) ⟨[(4, .bool true), (3, .tv (.sl c) ([] : List (den c))), (2, .nils), (0, .tv (.sl c) ([] : List (den c)))], []⟩ (finF Ab.Θ fn.results.toList [.sl c]) = m [])
    (ef : ∀ x : List (den c), evC Ab.Θ Ab.tyOf (clist []) fn.ntmps ℓ (jlist []) gnil 70 (.seq (.cond (.tmp 4) c2 .skip) c3) ⟨[(4, .bool false), (3, .tv (.sl c) x), (2, .nils), (0, .tv (.sl c) x)], []⟩ (finF Ab.Θ fn.results.toList [.sl c]) = m x) :
    ConOK Try.prog f ⟨[.sl c], [.sl c], fun x => m x.1⟩ := by
  refine ⟨hd, hd, fun x y hxy => ?_⟩
  obtain ⟨x, u⟩ := x
  cases u
  have hxy : m x = some y := hxy
  have hlen : (embs [Ty.sl c] (x, ())).length ≤ fn.ntmps := by
    rw [(embs_tvr hd (x, ())).1]; exact hl
  have key : WP Try.prog fn.ntmps (.seq r0 (.seq (.seq (.region id #[o1, o2] false) (.cond (.tmp 4) c2 .skip)) c3))
      (retK Ab.Θ fn.results.toList fun r H' => ∃ ts : List Tr, r = retOf ts ∧ (ts.map (frz H' fun _ => true)).length = (hparts [Ty.sl c] y).length ∧ ∀ (i : Nat) p t, (hparts [Ty.sl c] y)[i]? = some p → (ts.map (frz H' fun _ => true))[i]? = some t → TVR p.1 p.2 t)
      { T := argT (embs [Ty.sl c] (x, ())), H := hemp } := by
    have hrel : Rel ⟨argsV 0 [Ty.sl c] (x, ()), []⟩ ⟨argT (embs [Ty.sl c] (x, ())), hemp⟩ := by
      refine ⟨fun t => ?_, fun d => trivial, fun d _ => ⟨rfl, fun e sz ts h => by cases h⟩⟩
      obtain ⟨k1, k2⟩ := embs_tvr hd (x, ())
      have := argsV_rel (H := hemp) (cur := VSt.cur ⟨argsV 0 [Ty.sl c] (x, ()), []⟩) 0 [Ty.sl c] (x, ()) (embs [Ty.sl c] (x, ())) k1 (fun i p t hp ht => (k2 i p t hp ht).1) t
      simpa [argT] using this
    refine WP.seq ?_
    refine wpcX_sound tabOK mixedOK r0 _ _ (evC_sound (J := jlist []) (G := gnil) (N := 70) tabOK mixedOK typOK cl_nil r0 _ _ (fun e s => some (e, s)) _ (segsOK_nil _) hrel (e0 x) fun e s2 s2' r2 h2 => ?_)
    obtain ⟨rfl, rfl⟩ := Prod.mk.inj (Option.some.inj h2)
    refine WP.seq (WP.seq ((WP.nilTest tabOK mixedOK r2 g1 d1 p1 g2 d2 p2 hi hk h3 h4 rfl).mono ?_))
    rintro e s3' ⟨rfl, b, hbx, r3⟩
    have fin : evC Ab.Θ Ab.tyOf (clist []) fn.ntmps ℓ (jlist []) gnil 70 (.seq (.cond (.tmp 4) c2 .skip) c3) ⟨[(4, .bool b), (3, .tv (.sl c) x), (2, .nils), (0, .tv (.sl c) x)], []⟩ (finF Ab.Θ fn.results.toList [.sl c]) = m x := by
      cases b with
      | true => obtain rfl := hbx rfl; exact et
      | false => exact ef x
    have w := evC_sound (J := jlist []) (G := gnil) (N := 70) tabOK mixedOK typOK cl_nil _ _ _ (finF Ab.Θ fn.results.toList [.sl c]) y (segsOK_nil _) r3 (fin.trans hxy) fun e s2 s2' r2 h2 => finF_ok r2 h2
    have w2 := wpcX_sound tabOK mixedOK _ _ _ (show wpcX Try.prog Ab.Θ fn.ntmps ℓ (.cond (.tmp 4) c2 .skip) _ s3' from w)
    exact w2.mono (thenK_mono (fun s h => wpcX_sound tabOK mixedOK _ _ _ h) fun _ _ h => h)
  refine CallSem.closed (CallSem.of_body tabOK hf hb hent hlen key) (retOf_lf (embs_lf hd y)) ?_
  rintro r H' ⟨ts, rfl, k1, k2⟩ M v hMH ok hv
  subst hMH
  have hv' := hv.frz ok (fun _ => true)
  rw [frz_ret] at hv'
  exact embR_of hd k1 k2 hv'
end

/-- A function that is lent objects, out of its evaluation. -/
theorem pcon_of {f : FuncId} {fn : Func} {C : FuncId → Option CE} {ℓ : Nat → Nat} {J : Nat → Option Tmp} {G : Nat → Option Seg} {N : Nat} {p : PCon} (hC : ConsOK Try.prog C) (hG : SegsOK Try.prog fn.ntmps G (bodyOf fn)) (hok : p.ok = true)
    (hf : Try.prog.funcs[f]? = some fn) (hb : fn.body.isSome = true) (hent : Enters Try.prog f) (hl : Nat.ble p.args.length fn.ntmps = true)
    (h : ∀ x o, evP Θ tyOf C fn.ntmps ℓ J G N (bodyOf fn) fn.results.toList p.args p.objs p.r x o = p.m x o) : PConOK Try.prog f p :=
  evP_ok tabOK mixedOK typOK hC hG hok hf (by cases hb' : fn.body with
    | none => rw [hb'] at hb; cases hb
    | some c => simp [bodyOf, hb']) rfl rfl hent (Nat.le_of_ble_eq_true hl) h
end Go.Proofs.Ytnonimnhninafaa.Ab

/- A law's run, from its contract. -/
namespace Go.Proofs.Ytnonimnhninafaa.Ab
open Go Go.WideShapes Go.ChangeShapes Go.RowKit

section
variable {P : Program} {Θ : Tab} {tyOf : TypeId → Option Ty} {H : Type} {enc : TypeId × Value → H} {W : World} {sp : Nat → Bool}

theorem trod_open (hΘ : TabOK P Θ) (hty : TypOK Θ tyOf) (hpos : ∀ t c, tyOf t = some c → 0 < tsz c) {t : TypeId} {c : Ty} {v : Value} {d : DataW H} {ps : List MemPlace} {base : Nat} (hc : tyOf t = some c) (hv : Value.okWide P W .any base t v) (h : DataW.Trod enc P W 0 sp true t v d ps) :
    ∃ x tr, TVR c x tr ∧ OKD c x ∧ VR (M0 W) tr v := by
  obtain ⟨fuel, hf⟩ := h
  obtain ⟨x, tr, ho⟩ := open_ty hΘ hty hpos fuel c t _ _ hc hf
  obtain ⟨i, tc⟩ := hty t c hc
  have hu := (hΘ t i tc.get).und
  have hk := tc.kind
  refine ⟨x, tr, ho.tv, ho.ok, ?_⟩
  obtain ⟨tv, ok, wf, len, vr⟩ := ho
  have hsz := tv.shape.1
  cases c with
  | int k =>
    rw [hk] at hu
    obtain ⟨n, rfl⟩ := okWide_int hu hv
    cases tv
    exact vr 0 _ rfl
  | bool =>
    rw [hk] at hu
    obtain ⟨n, rfl⟩ := okWide_bool hu hv
    cases tv
    exact vr 0 _ rfl
  | str =>
    rw [hk] at hu
    obtain ⟨n, rfl⟩ := okWide_string hu hv
    cases tv
    exact vr 0 _ rfl
  | sl c' =>
    obtain ⟨e, hk, he⟩ := hk
    rw [hk] at hu
    obtain ⟨a, l, cp, rfl⟩ := okWide_slice hu hv
    cases tv <;> exact vr 0 _ rfl
  | arr m c' =>
    obtain ⟨e, hk, he⟩ := hk
    rw [hk] at hu
    simp only [Value.okWide, hu.1] at hv
    obtain ⟨cs, rfl, _, _⟩ := hv
    have hag : tr.isAgg = true := by cases tv; rfl
    refine .agg hag wf ?_ fun i l hl => ?_
    · rw [hsz, ← len]; rfl
    · have := vr i l hl
      simpa [Value.cells, List.getD_eq_getElem?_getD, Array.getD_eq_getD_getElem?] using this
  | st s =>
    obtain ⟨ids, hk, _⟩ := hk
    rw [hk] at hu
    obtain ⟨fs, hu', _⟩ := hu
    simp only [Value.okWide, hu'] at hv
    obtain ⟨cs, rfl, _, _⟩ := hv
    have hag : tr.isAgg = true := by cases tv; rfl
    refine .agg hag wf ?_ fun i l hl => ?_
    · rw [hsz, ← len]; rfl
    · have := vr i l hl
      simpa [Value.cells, List.getD_eq_getElem?_getD, Array.getD_eq_getD_getElem?] using this

def OKH (ps : List Ty) (x : HL ps) : Prop := ∀ p ∈ hparts ps x, OKD p.1 p.2

theorem args_open (hΘ : TabOK P Θ) (hty : TypOK Θ tyOf) (hpos : ∀ t c, tyOf t = some c → 0 < tsz c) {base : Nat} : ∀ (ts : List TypeId) (ps : List Ty) (vs : List Value) (ds : List (DataW H)) (q : List MemPlace), ts.map tyOf = ps.map some →
    (∀ (j : Nat) t v, ts[j]? = some t → vs[j]? = some v → Value.okWide P W .any base t v) → DataW.TrodAll enc P W 0 sp true ts vs ds q →
    ∃ (x : HL ps) (trs : List Tr), trs.length = vs.length ∧ trs.length = (hparts ps x).length ∧ OKH ps x ∧ ∀ (i : Nat) p t v, (hparts ps x)[i]? = some p → trs[i]? = some t → vs[i]? = some v → TVR p.1 p.2 t ∧ VR (M0 W) t v
  | [], [], vs, ds, q, _, _, h => by
    obtain ⟨rfl, rfl, rfl⟩ := trodAll_nil h
    exact ⟨(), [], rfl, rfl, fun p hp => (by simp [hparts] at hp), fun i p t v hp => (by simp [hparts] at hp)⟩
  | [], _ :: _, _, _, _, hm, _, _ => by simp at hm
  | _ :: _, [], _, _, _, hm, _, _ => by simp at hm
  | t :: ts, c :: ps, vs, ds, q, hm, hval, h => by
    obtain ⟨v, vs', d, ds', p, q', rfl, rfl, rfl, h1, h2⟩ := trodAll_cons h
    simp only [List.map_cons, List.cons.injEq] at hm
    obtain ⟨x, tr, htv, hok, hvr⟩ := trod_open hΘ hty hpos hm.1 (hval 0 t v rfl rfl) h1
    obtain ⟨xs, trs, hl1, hl2, hoks, hR⟩ := args_open hΘ hty hpos ts ps vs' ds' q' hm.2 (fun j t v ht hv => hval (j + 1) t v (by simpa using ht) (by simpa using hv)) h2
    refine ⟨(x, xs), tr :: trs, by simp [hl1], by simp [hparts, hl2], fun p hp => ?_, fun i p t v hp ht hv => ?_⟩
    · simp only [hparts, List.mem_cons] at hp
      rcases hp with rfl | hp
      · exact hok
      · exact hoks p hp
    · cases i with
      | zero =>
        simp only [hparts, List.getElem?_cons_zero, Option.some.injEq] at hp ht hv
        subst hp; subst ht; subst hv
        exact ⟨htv, hvr⟩
      | succ i => exact hR i p t v (by simpa [hparts] using hp) (by simpa using ht) (by simpa using hv)

theorem args_back (hl : laidOutB P = true) {W' : World} (bel : Below W.heap.size W W') : ∀ (ts : List TypeId) (vs : List Value) (ds : List (DataW H)) (q : List MemPlace), (ts.all fun t => P.readableRec t && decide (t < P.types.size)) = true →
    DataW.TrodAll enc P W 0 (fun _ => true) true ts vs ds q → DataW.TrodAll enc P W' 0 (fun b => decide (b < W.heap.size)) true ts vs ds q
  | [], vs, ds, q, _, h => by
    obtain ⟨rfl, rfl, rfl⟩ := trodAll_nil h
    exact rfl
  | t :: ts, vs, ds, q, hr, h => by
    obtain ⟨v, vs', d, ds', p, q', rfl, rfl, rfl, h1, h2⟩ := trodAll_cons h
    simp only [List.all_cons, Bool.and_eq_true, decide_eq_true_eq] at hr
    refine ⟨p, q', Below.trod hl hr.1.1 hr.1.2 h1 bel ?_, args_back hl bel ts vs' ds' q' (by simpa using hr.2) h2, rfl⟩
    obtain ⟨m, hm⟩ := h1
    exact DataW.trod_lt m _ _ _ hm

theorem law_run (hΘ : TabOK P Θ) (hty : TypOK Θ tyOf) (hpos : ∀ t c, tyOf t = some c → 0 < tsz c) {f : FuncId} {ps : List Ty} {m : HL ps → Option (HL [Ty.bool])} (hc : ConOK P f ⟨ps, [.bool], m⟩) (hm : ∀ x, OKH ps x → m x = some (true, ()))
    {base : Nat} {ts : List TypeId} {args : Array Value} {ds : List (DataW H)} {q : List MemPlace} (hmap : ts.map tyOf = ps.map some) (hval : ∀ (j : Nat) t v, ts[j]? = some t → args.toList[j]? = some v → Value.okWide P W .any base t v)
    (h : DataW.TrodAll enc P W 0 sp true ts args.toList ds q) : Calls P f args W fun e W' => e = .returned (.bool true) ∧ Below W.heap.size W W' := by
  obtain ⟨x, trs, hl1, hl2, hok, hR⟩ := args_open hΘ hty hpos ts ps args.toList ds q hmap hval h
  have hcall := hc.trees (hm x hok) hl2 (fun i p t hp ht => by
    have hv : args.toList[i]? = some (args.toList[i]'(by rw [← hl1]; exact (List.getElem?_eq_some_iff.1 ht).1)) := by simp
    exact (hR i p t _ hp ht hv).1)
  have hsz : args.size = trs.length := by rw [hl1]; simp
  refine (hcall.2 (M0 W) args rfl (memOK_bare W _ _ fun b hb => hb) hsz fun i t ht => ?_).mono fun e W' hh => ?_
  · have hi : i < trs.length := (List.getElem?_eq_some_iff.1 ht).1
    have hv : args.toList[i]? = some (args.getD i undef) := by
      simp [Array.getD_eq_getD_getElem?, hsz, hi]
    have hp : (hparts ps x)[i]? = some ((hparts ps x)[i]'(by omega)) := by simp
    exact (hR i _ t _ hp ht hv).2
  · obtain ⟨v, r, M', rfl, rfl, hr, hM, fr, _, hvr⟩ := hh
    subst hr
    have : VR M' (.bool true) v := hvr
    obtain rfl : v = .bool true := by cases this with
      | bool => rfl
      | agg ha => cases ha
    refine ⟨rfl, fr.os, fr.tape, fr.output, fr.size, fun k hk => fr.blk k hk ?_⟩
    rintro ⟨d, K, hl, _⟩
    simp [Live, M0, hemp] at hl
end
end Go.Proofs.Ytnonimnhninafaa.Ab

/- The row's own small facts. -/
namespace Go.Proofs.Ytnonimnhninafaa.Ab
open Go
set_option linter.unusedVariables false
set_option linter.unusedSimpArgs false
theorem shutBool {P : Program} {H : Type} {enc : TypeId × Value → H} {W : World} {base : Nat} {sp : Nat → Bool} {held : Bool} {t : TypeId} (ht : P.underlying t = some .bool) (b : Bool) : DataW.Trod enc P W base sp held t (.bool b) (.lit (.bool b)) [] :=
  ⟨1, by simp [DataW.trod, Value.cells, ht]⟩
theorem tyPos : ∀ t c, tyOf t = some c → 0 < tsz c := by
  intro t c h
  unfold tyOf at h
  split at h <;> first | (cases h; decide) | cases h
end Go.Proofs.Ytnonimnhninafaa.Ab

/- What the ranges of arguments give. -/
namespace Go.Proofs.Ytnonimnhninafaa.Ab
open Go

theorem okd64 {n : Int} (h : OKD (.int .i64) n) : -9223372036854775808 ≤ n ∧ n < 9223372036854775808 := by
  cases h with
  | int _ _ h =>
    simp only [Lit.wf, Bool.and_eq_true, decide_eq_true_eq] at h
    have h1 : IntKind.i64.min = -9223372036854775808 := by decide
    have h2 : IntKind.i64.max = 9223372036854775807 := by decide
    omega
theorem okd16 {n : Int} (h : OKD (.int .u16) n) : 0 ≤ n ∧ n < 65536 := by
  cases h with
  | int _ _ h =>
    simp only [Lit.wf, Bool.and_eq_true, decide_eq_true_eq] at h
    have h1 : IntKind.u16.min = 0 := by decide
    have h2 : IntKind.u16.max = 65535 := by decide
    omega
theorem okh2 {c : Ty} {k : IntKind} {x : HL [c, .int k]} (h : OKH [c, .int k] x) : OKD (.int k) x.2.1 := h ⟨.int k, x.2.1⟩ (by simp [hparts])
theorem okMicro {b : M.Micro} (h : OKD (.st .sMicro) b) : b.At < 9223372036854775808 := by
  have key : ∀ (c : Ty) (x : den c), OKD c x → ∀ (e : c = .st .sMicro), (e ▸ x : den (.st .sMicro)) = b → b.At < 9223372036854775808 := by
    intro c x hx e he
    cases hx with
    | st s0 x0 hh =>
      cases e
      cases he
      exact (okd64 (hh ⟨.int .i64, M.Micro.At x0⟩ (List.Mem.head _))).2
    | _ => cases e
  exact key (.st .sMicro) (show den (.st .sMicro) from b) h rfl rfl
theorem okh2st {c : Ty} {s : SId} {x : HL [c, .st s]} (h : OKH [c, .st s] x) : OKD (.st s) x.2.1 := h ⟨.st s, x.2.1⟩ (by simp [hparts])
end Go.Proofs.Ytnonimnhninafaa.Ab
