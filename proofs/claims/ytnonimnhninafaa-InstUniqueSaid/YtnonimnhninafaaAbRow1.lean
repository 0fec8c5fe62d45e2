/- Arguments of a law as typed values. -/
import Derived.Test.YtnonimnhninafaaAbV14
import Derived.ChangeArms
import Derived.OpenShut
import Derived.DataReads
import Derived.ShutString
import Derived.ChangeOld
import Derived.SizedLaws
namespace Go.Proofs.Ytnonimnhninafaa.Ab
open Go

/-- A typed value is one that a Go value may be. -/
inductive OKD : (c : Ty) → den c → Prop
  | int (k : IntKind) (n : Int) (h : (Lit.int k n).wf = true) : OKD (.int k) n
  | bool (b : Bool) : OKD .bool b
  | str (s : ByteArray) (h : s.size ≤ maxLen) : OKD .str s
  | sl {c : Ty} (xs : List (den c)) (h : ∀ x ∈ xs, OKD c x) (hl : xs.length ≤ maxLen) : OKD (.sl c) xs
  | arr {c : Ty} {n : Nat} (xs : Vector (den c) n) (h : ∀ x ∈ xs.toList, OKD c x) : OKD (.arr n c) xs
  | st (s : SId) (x : SDen s) (h : ∀ p ∈ parts s x, OKD p.1 p.2) : OKD (.st s) x

def M0 (W : World) : Mem := ⟨W, fun b => b < W.heap.size, fun _ => none, hemp⟩

/-- Cells that show a typed value. -/
structure Opn (W : World) (cs : List Value) (c : Ty) (x : den c) (t : Tr) : Prop where
  tv : TVR c x t
  ok : OKD c x
  wf : t.wf
  len : cs.length = tsz c
  vr : ∀ i l, t.leaves[i]? = some l → VR (M0 W) l (cs.getD i undef)

theorem Opn.one {W : World} {v : Value} {c : Ty} {x : den c} {t : Tr} (tv : TVR c x t) (ok : OKD c x) (wf : t.wf) (hs : tsz c = 1) (hl : t.leaves = [t]) (vr : VR (M0 W) t v) : Opn W [v] c x t :=
  ⟨tv, ok, wf, by rw [hs]; rfl, fun i l hi => by
    rw [hl] at hi
    cases i with
    | zero => simp at hi; subst hi; exact vr
    | succ i => simp at hi⟩

/-- Parts that lie one behind the other. -/
theorem opn_parts {W : World} {cs : List Value} : ∀ (os : List Nat) (ts : List Tr) (a sz : Nat), offsOK os ts a sz → (∀ t ∈ ts, t.wf) → (∀ (j : Nat) o t, os[j]? = some o → ts[j]? = some t → ∀ i l, t.leaves[i]? = some l → VR (M0 W) l (cs.getD (o + i) undef)) →
    ∀ i l, (leavesL ts)[i]? = some l → VR (M0 W) l (cs.getD (a + i) undef)
  | [], [], a, sz, _, _, _, i, l, h => by simp [leavesL] at h
  | o :: os, t :: ts, a, sz, ho, hw, hp, i, l, h => by
    simp only [offsOK] at ho
    simp only [leavesL] at h
    have hlen := leaves_length t (hw t (by simp))
    by_cases hi : i < t.leaves.length
    · rw [List.getElem?_append_left hi] at h
      rw [← ho.1]
      exact hp 0 o t rfl rfl i l h
    · rw [List.getElem?_append_right (by omega)] at h
      have := opn_parts os ts (a + t.size) sz ho.2 (fun t ht => hw t (by simp [ht])) (fun j o t h1 h2 => hp (j + 1) o t (by simpa using h1) (by simpa using h2)) (i - t.leaves.length) l h
      rw [hlen] at this
      have e : a + t.size + (i - t.size) = a + i := by omega
      rw [e] at this
      exact this
  | [], _ :: _, _, _, ho, _, _, _, _, _ => by simp [offsOK] at ho
  | _ :: _, [], _, _, ho, _, _, _, _, _ => by simp [offsOK] at ho

theorem list_of {α β : Type} {n : Nat} [Inhabited α] [Inhabited β] {R : Nat → α → β → Prop} (h : ∀ i, i < n → ∃ x y, R i x y) : ∃ (xs : List α) (ys : List β), xs.length = n ∧ ys.length = n ∧ ∀ i x y, xs[i]? = some x → ys[i]? = some y → R i x y := by
  induction n with
  | zero => exact ⟨[], [], rfl, rfl, fun i x y h => by simp at h⟩
  | succ n ih =>
    obtain ⟨xs, ys, h1, h2, h3⟩ := ih fun i hi => h i (by omega)
    obtain ⟨x, y, hxy⟩ := h n (by omega)
    refine ⟨xs ++ [x], ys ++ [y], by simp [h1], by simp [h2], fun i a b ha hb => ?_⟩
    rw [List.getElem?_append] at ha hb
    rw [h1] at ha
    rw [h2] at hb
    split at ha
    · rename_i hi
      rw [if_pos hi] at hb
      exact h3 i a b ha hb
    · rename_i hi
      rw [if_neg hi] at hb
      have e : i = n := by
        have := (List.getElem?_eq_some_iff.1 ha).1
        simp at this; omega
      subst e
      simp at ha hb
      subst ha hb
      exact hxy

section
variable {P : Program} {Θ : Tab} {tyOf : TypeId → Option Ty} {H : Type} {enc : TypeId × Value → H} {W : World} {sp : Nat → Bool}

theorem cellsOf_tsz (hΘ : TabOK P Θ) {t : TypeId} {c : Ty} {i : TyI} (tc : TyC Θ tyOf t c i) : P.cellsOf t = tsz c := by
  obtain ⟨inf, h1, h2, _⟩ := (hΘ t i tc.get).info
  simp [Program.cellsOf, h1, h2, tc.size]

theorem offs_zero (hΘ : TabOK P Θ) {t : TypeId} {s : SId} {i : TyI} (tc : TyC Θ tyOf t (.st s) i) : offsOK (soffs s) ((tys s).map (tz 8)) 0 (ssz s) := by
  obtain ⟨inf, _, _, _, h4⟩ := (hΘ t i tc.get).info
  have hg : i.zero.good = true := by rw [tc.zero]; rfl
  have := (h4 hg).1
  rw [tc.zero] at this
  simp only [tz, Tr.wf] at this
  exact this.1

theorem leavesL_inv {sz : Nat} {ts : List Tr} (h : ∀ x ∈ ts, x.wf ∧ x.size = sz) (h0 : 0 < sz) {k : Nat} {l : Tr} (hk : (leavesL ts)[k]? = some l) : ∃ t, ts[k / sz]? = some t ∧ t.leaves[k % sz]? = some l := by
  have hlen : (leavesL ts).length = sz * ts.length := by
    rw [leavesL_length ts ((wfL_iff _).2 fun x hx => (h x hx).1), sum_size_const sz ts fun x hx => (h x hx).2]
  have hlt : k < sz * ts.length := by rw [← hlen]; exact (List.getElem?_eq_some_iff.1 hk).1
  have hq : k / sz < ts.length := by rw [Nat.div_lt_iff_lt_mul h0, Nat.mul_comm]; exact hlt
  have hr : k % sz < sz := Nat.mod_lt _ h0
  have hm := List.getElem_mem hq
  have hx : ts[k / sz]? = some ts[k / sz] := by simp
  have hlj : k % sz < ts[k / sz].leaves.length := by rw [leaves_length _ (h _ hm).1, (h _ hm).2]; exact hr
  refine ⟨_, hx, ?_⟩
  have hj : ts[k / sz].leaves[k % sz]? = some ts[k / sz].leaves[k % sz] := by simp
  have := leavesL_elem sz ts h (k / sz) _ hx (k % sz) _ hj
  have e : k / sz * sz + k % sz = k := by rw [Nat.mul_comm]; exact Nat.div_add_mod k sz
  rw [e, hk] at this
  rw [hj, this]

theorem open_ty (hΘ : TabOK P Θ) (hty : TypOK Θ tyOf) (hpos : ∀ t c, tyOf t = some c → 0 < tsz c) : ∀ (fuel : Nat) (c : Ty) (t : TypeId) (cs : List Value) (y : DataW H × List MemPlace), tyOf t = some c → DataW.trod enc P W 0 sp true fuel t cs = some y → ∃ x tr, Opn W cs c x tr := by
  intro fuel
  induction fuel with
  | zero => intro c t cs y _ h; simp [DataW.trod] at h
  | succ fuel ih =>
    intro c t cs y hc h
    obtain ⟨i, tc⟩ := hty t c hc
    have hu := (hΘ t i tc.get).und
    have hk := tc.kind
    cases c with
    | int k =>
      rw [hk] at hu
      simp only at hu
      unfold DataW.trod at h
      rw [hu] at h
      split at h <;> simp_all
      rename_i k1 k' n hkk
      subst hkk
      obtain ⟨⟨_, hwf⟩, _⟩ := h
      exact ⟨n, .int _ n, Opn.one (.int _ n) (.int _ n hwf) trivial rfl rfl (.int _ n)⟩
    | bool =>
      rw [hk] at hu
      simp only at hu
      unfold DataW.trod at h
      rw [hu] at h
      split at h <;> simp_all
      rename_i b
      exact ⟨b, .bool b, Opn.one (.bool b) (.bool b) trivial rfl rfl (.bool b)⟩
    | str =>
      rw [hk] at hu
      simp only at hu
      unfold DataW.trod at h
      rw [hu] at h
      split at h <;> simp_all
      rename_i s
      exact ⟨s, .str s, Opn.one (.str s) (.str s h.1) trivial rfl rfl (.str s)⟩
    | sl c' =>
      obtain ⟨e, hk, he⟩ := hk
      rw [hk] at hu
      simp only at hu
      obtain ⟨ei, te⟩ := hty e c' he
      have hcell : P.cellsOf e = tsz c' := cellsOf_tsz hΘ te
      have h0 : 0 < tsz c' := hpos e c' he
      rcases DataW.trod_slice hu h with ⟨rfl, _⟩ | ⟨a, len, cap, elems, rest, n, hn, rfl, _, _, hl, hm, hlen, hel, _, _⟩
      · exact ⟨([] : List (den c')), .nils, Opn.one (.nil c') (.sl [] (by simp) (Nat.zero_le _)) trivial rfl rfl .nils⟩
      · obtain rfl : fuel = n := by omega
        letI : Inhabited (den c') := ⟨dflt c'⟩
        have each : ∀ j, j < len → ∃ (x : den c') (tr : Tr), ∃ cj, W.cells? 0 (a.add (j * tsz c')) (tsz c') = some cj ∧ Opn W cj c' x tr := by
          intro j hj
          have h1 := hel j hj
          rw [hcell] at h1
          have h2 : elems[j]? = some (elems[j]'(by omega)) := by simp
          rw [h2] at h1
          obtain ⟨cj, h3, h4⟩ := Option.bind_eq_some_iff.1 h1
          obtain ⟨x, tr, ho⟩ := ih c' e cj _ he h4
          exact ⟨x, tr, cj, h3, ho⟩
        obtain ⟨xs, ts, hxs, hts, hR⟩ := list_of each
        have get : ∀ j, j < len → ∃ cj, W.cells? 0 (a.add (j * tsz c')) (tsz c') = some cj ∧ ∃ x tr, xs[j]? = some x ∧ ts[j]? = some tr ∧ Opn W cj c' x tr := by
          intro j hj
          have hx : xs[j]? = some (xs[j]'(by omega)) := by simp
          have ht : ts[j]? = some (ts[j]'(by omega)) := by simp
          obtain ⟨cj, h3, h4⟩ := hR j _ _ hx ht
          exact ⟨cj, h3, _, _, hx, ht, h4⟩
        have hw : ∀ tr ∈ ts, tr.wf ∧ tr.size = tsz c' := by
          intro tr htr
          obtain ⟨j, hj, rfl⟩ := List.mem_iff_getElem.1 htr
          obtain ⟨cj, _, x, tr', _, h2, h3⟩ := get j (by omega)
          have e2 : tr' = ts[j] := by rw [List.getElem?_eq_getElem hj] at h2; exact (Option.some.inj h2).symm
          subst e2
          exact ⟨h3.wf, h3.tv.shape.1⟩
        have cell : ∀ k l, (leavesL ts)[k]? = some l → ∃ v, W.cell? (a.add k) = some v ∧ VR (M0 W) l v := by
          intro k l hk
          obtain ⟨tr, h1, h2⟩ := leavesL_inv hw h0 hk
          have hj : k / tsz c' < len := by rw [← hts]; exact (List.getElem?_eq_some_iff.1 h1).1
          obtain ⟨cj, h3, x, tr', _, h5, h6⟩ := get _ hj
          have e2 : tr' = tr := Option.some.inj (h5.symm.trans h1)
          subst e2
          obtain ⟨_, h7, h8⟩ := World.cells?_some h3
          have hr : k % tsz c' < tsz c' := Nat.mod_lt _ h0
          have h9 := h8 _ hr
          rw [add_add] at h9
          have e3 : k / tsz c' * tsz c' + k % tsz c' = k := by rw [Nat.mul_comm]; exact Nat.div_add_mod k _
          rw [e3] at h9
          have h10 : cj[k % tsz c']? = some (cj.getD (k % tsz c') undef) := getD_some (by omega)
          rw [h10] at h9
          exact ⟨_, h9, h6.vr _ _ h2⟩
        have haddr : 0 < ts.length → a.spot = none ∧ a.block < W.heap.size := by
          intro hp
          obtain ⟨cj, h3, _⟩ := get 0 (by omega)
          obtain ⟨_, h7, h8⟩ := World.cells?_some h3
          have h9 := h8 0 h0
          have h10 : cj[0]? = some (cj.getD 0 undef) := getD_some (by omega)
          rw [h10, add_add, Nat.zero_mul] at h9
          have hsp : a.spot = none := by
            unfold World.cell? at h9
            split at h9
            · split at h9
              · cases h9
              · rename_i hns
                cases hs : a.spot with
                | none => rfl
                | some q =>
                  have : (a.add (0 + 0)).spot.isSome = true := by unfold Addr.add; simp [hs]
                  exact absurd this (by simpa using hns)
            · cases h9
          refine ⟨hsp, ?_⟩
          unfold World.cell? at h9
          rw [add_block] at h9
          split at h9
          · rename_i hb; exact (Array.getElem?_eq_some_iff.1 hb).1
          · cases h9
        refine ⟨xs, .sl (tsz c') ts, Opn.one (.sl xs ts (by omega) fun j x tr hx htr => ?_) (.sl xs (fun x hx => ?_) (by omega)) ?_ rfl rfl ?_⟩
        · obtain ⟨cj, _, h6⟩ := hR j x tr hx htr
          exact h6.tv
        · obtain ⟨j, hj, rfl⟩ := List.mem_iff_getElem.1 hx
          obtain ⟨cj, _, x, tr', h4, _, h6⟩ := get j (by omega)
          have e2 : x = xs[j] := by rw [List.getElem?_eq_getElem hj] at h4; exact (Option.some.inj h4).symm
          subst e2
          exact h6.ok
        · simp only [Tr.wf]
          exact ⟨fun x hx => (hw x hx).2, (wfL_iff _).2 fun x hx => (hw x hx).1⟩
        · have e4 : len = ts.length := hts.symm
          subst e4
          refine .sl (fun k => (W.cell? (a.add k)).getD undef) hl (by simp) hw (fun ad ha hp => ?_) (fun k l hk => ?_) (fun k l hk => ?_)
          · obtain rfl := Option.some.inj ha
            exact haddr hp
          · obtain ⟨v, h1, h2⟩ := cell k l hk
            exact ⟨a, rfl, by show W.cell? _ = _; rw [h1]; rfl⟩
          · obtain ⟨v, h1, h2⟩ := cell k l hk
            rw [h1]; exact h2
    | arr m c' =>
      obtain ⟨e, hk, he⟩ := hk
      rw [hk] at hu
      simp only at hu
      obtain ⟨ei, te⟩ := hty e c' he
      have hcell : P.cellsOf e = tsz c' := cellsOf_tsz hΘ te
      have h0 : 0 < tsz c' := hpos e c' he
      obtain ⟨xs', n, hn, _, hl, hlen, hf⟩ := DataW.trod_array hu.1 h
      obtain rfl : fuel = n := by omega
      have hcl : cs.length = tsz (.arr m c') := by rw [hl, cellsOf_tsz hΘ tc]
      letI : Inhabited (den c') := ⟨dflt c'⟩
      have each : ∀ j, j < m → ∃ (x : den c') (tr : Tr), Opn W ((cs.drop (j * tsz c')).take (tsz c')) c' x tr := by
        intro j hj
        have h1 := hf j hj
        rw [hcell] at h1
        have h2 : xs'[j]? = some (xs'[j]'(by omega)) := by simp
        rw [h2] at h1
        exact ih c' e _ _ he h1
      obtain ⟨xs, ts, hxs, hts, hR⟩ := list_of each
      have get : ∀ j, j < m → ∃ x tr, xs[j]? = some x ∧ ts[j]? = some tr ∧ Opn W ((cs.drop (j * tsz c')).take (tsz c')) c' x tr := by
        intro j hj
        have hx : xs[j]? = some (xs[j]'(by omega)) := by simp
        have ht : ts[j]? = some (ts[j]'(by omega)) := by simp
        exact ⟨_, _, hx, ht, hR j _ _ hx ht⟩
      have hw : ∀ tr ∈ ts, tr.wf ∧ tr.size = tsz c' := by
        intro tr htr
        obtain ⟨j, hj, rfl⟩ := List.mem_iff_getElem.1 htr
        obtain ⟨x, tr', _, h2, h3⟩ := get j (by omega)
        have e2 : tr' = ts[j] := by rw [List.getElem?_eq_getElem hj] at h2; exact (Option.some.inj h2).symm
        subst e2
        exact ⟨h3.wf, h3.tv.shape.1⟩
      have hv : (⟨xs.toArray, by simp [hxs]⟩ : Vector (den c') m).toList = xs := by simp
      refine ⟨(⟨xs.toArray, by simp [hxs]⟩ : Vector (den c') m), .arr (tsz c') ts, .arr _ ts hts (by rw [hv]; exact fun j x tr hx htr => (hR j x tr hx htr).tv), .arr _ (by
        rw [hv]
        intro x hx
        obtain ⟨j, hj, rfl⟩ := List.mem_iff_getElem.1 hx
        obtain ⟨x, tr', h4, _, h6⟩ := get j (by omega)
        have e2 : x = xs[j] := by rw [List.getElem?_eq_getElem hj] at h4; exact (Option.some.inj h4).symm
        subst e2
        exact h6.ok), ?_, hcl, fun k l hk2 => ?_⟩
      · simp only [Tr.wf]
        exact ⟨fun x hx => (hw x hx).2, (wfL_iff _).2 fun x hx => (hw x hx).1⟩
      · obtain ⟨tr, h1, h2⟩ := leavesL_inv hw h0 (show (leavesL ts)[k]? = some l from hk2)
        have hj : k / tsz c' < m := by rw [← hts]; exact (List.getElem?_eq_some_iff.1 h1).1
        obtain ⟨x, tr', _, h5, h6⟩ := get _ hj
        have e2 : tr' = tr := Option.some.inj (h5.symm.trans h1)
        subst e2
        have h7 := h6.vr _ _ h2
        have hr : k % tsz c' < tsz c' := Nat.mod_lt _ h0
        have e3 : k / tsz c' * tsz c' + k % tsz c' = k := by rw [Nat.mul_comm]; exact Nat.div_add_mod k _
        have e4 : ((cs.drop (k / tsz c' * tsz c')).take (tsz c')).getD (k % tsz c') undef = cs.getD k undef := by
          simp only [List.getD_eq_getElem?_getD, List.getElem?_take, if_pos hr, List.getElem?_drop, e3]
        rw [e4] at h7
        exact h7
    | st s =>
      obtain ⟨ids, hk, hids⟩ := hk
      rw [hk] at hu
      simp only at hu
      obtain ⟨fs, hu1, hof, htf, _⟩ := hu
      obtain ⟨xs', n, hn, _, hl, hlen, hf⟩ := DataW.trod_struct hu1 h
      obtain rfl : fuel = n := by omega
      have hcl : cs.length = tsz (.st s) := by rw [hl, cellsOf_tsz hΘ tc]
      have hfl : fs.size = (tys s).length := by
        have h1 := congrArg List.length htf
        have h2 := congrArg List.length hids
        simp at h1 h2; omega
      have hol := soffs_len s
      -- each field
      have each : ∀ (j : Nat) (c' : Ty), (tys s)[j]? = some c' → ∃ o, (soffs s)[j]? = some o ∧ ∃ (x : den c') (tr : Tr), Opn W ((cs.drop o).take (tsz c')) c' x tr := by
        intro j c' hj
        have hjl : j < (tys s).length := (List.getElem?_eq_some_iff.1 hj).1
        have hfj : fs[j]? = some (fs[j]'(by omega)) := by simp
        have h1 := hf j _ hfj
        have h2 : xs'[j]? = some (xs'[j]'(by omega)) := by simp
        rw [h2] at h1
        have ho : (soffs s)[j]? = some (fs[j]'(by omega)).offset := by
          rw [← hof, List.getElem?_map]; simp [hfl, hjl]
        have hid : tyOf (fs[j]'(by omega)).type = some c' := by
          have h3 : ids[j]? = some (fs[j]'(by omega)).type := by rw [← htf, List.getElem?_map]; simp [hfl, hjl]
          have h4 := congrArg (·[j]?) hids
          simp only [List.getElem?_map, h3, hj, Option.map_some, Option.some.injEq] at h4
          exact h4
        obtain ⟨ej, tej⟩ := hty _ c' hid
        rw [cellsOf_tsz hΘ tej] at h1
        exact ⟨_, ho, ih c' _ _ _ hid h1⟩
      have build : ∀ (cs' : List Ty) (k : Nat), (∀ j c', cs'[j]? = some c' → (tys s)[k + j]? = some c') → ∃ (hh : HL cs') (ts : List Tr), ts.length = cs'.length ∧ ∀ (j : Nat) p tr, (hparts cs' hh)[j]? = some p → ts[j]? = some tr → ∃ o, (soffs s)[k + j]? = some o ∧ Opn W ((cs.drop o).take (tsz p.1)) p.1 p.2 tr := by
        intro cs'
        induction cs' with
        | nil => intro k _; exact ⟨(), [], rfl, fun j p tr h => by simp [hparts] at h⟩
        | cons c' cs' ihc =>
          intro k hk'
          obtain ⟨hh, ts, h1, h2⟩ := ihc (k + 1) fun j c'' hj => by
            have := hk' (j + 1) c'' (by simpa using hj)
            rw [← this]; congr 1; omega
          obtain ⟨o, ho, x, tr, hop⟩ := each k c' (by have := hk' 0 c' rfl; simpa using this)
          refine ⟨(x, hh), tr :: ts, by simp [h1], fun j p tr' hp ht => ?_⟩
          cases j with
          | zero =>
            simp only [hparts, List.getElem?_cons_zero, Option.some.injEq] at hp ht
            subst hp ht
            exact ⟨o, ho, hop⟩
          | succ j =>
            obtain ⟨o', h3, h4⟩ := h2 j p tr' (by simpa [hparts] using hp) (by simpa using ht)
            refine ⟨o', ?_, h4⟩
            rw [← h3]; congr 1; omega
      obtain ⟨hh, ts, hts, hR⟩ := build (tys s) 0 fun j c' hj => by rw [Nat.zero_add]; exact hj
      have hpl : (hparts (tys s) hh).length = (tys s).length := by rw [← List.length_map (f := (·.1)), hparts_tys]
      have hparts' : parts s (ofH s hh) = hparts (tys s) hh := by unfold parts; rw [toH_ofH]
      have getj : ∀ (j : Nat) tr, ts[j]? = some tr → ∃ p o, (hparts (tys s) hh)[j]? = some p ∧ (soffs s)[j]? = some o ∧ Opn W ((cs.drop o).take (tsz p.1)) p.1 p.2 tr := by
        intro j tr ht
        have hjl : j < ts.length := (List.getElem?_eq_some_iff.1 ht).1
        have hp : (hparts (tys s) hh)[j]? = some ((hparts (tys s) hh)[j]'(by omega)) := by simp
        obtain ⟨o, h1, h2⟩ := hR j _ tr hp ht
        rw [Nat.zero_add] at h1
        exact ⟨_, o, hp, h1, h2⟩
      have hwf : ∀ tr ∈ ts, tr.wf := by
        intro tr htr
        obtain ⟨j, hj, rfl⟩ := List.mem_iff_getElem.1 htr
        obtain ⟨p, o, _, _, h3⟩ := getj j _ (List.getElem?_eq_getElem hj)
        exact h3.wf
      have hzok := tc.zok
      simp only [tzOK, List.all_eq_true] at hzok
      have hoffs : offsOK (soffs s) ts 0 (ssz s) := by
        refine offsOK_sizes ?_ (offs_zero hΘ tc)
        apply List.ext_getElem?
        intro j
        rw [List.getElem?_map, List.getElem?_map, List.getElem?_map]
        cases ht : ts[j]? with
        | none =>
          have : (tys s)[j]? = none := by
            rw [List.getElem?_eq_none_iff] at ht ⊢; omega
          rw [this]; rfl
        | some tr =>
          obtain ⟨p, o, h1, h2, h3⟩ := getj j tr ht
          have h4 := congrArg (·[j]?) (hparts_tys (tys s) hh)
          simp only [List.getElem?_map, h1, Option.map_some] at h4
          rw [← h4]
          simp only [Option.map_some, Option.some.injEq]
          rw [h3.tv.shape.1, tz_size 8 p.1 (hzok _ (List.mem_of_getElem? h4.symm))]
      refine ⟨ofH s hh, .node (ssz s) (soffs s) ts, .st s _ ts (by rw [hparts', hpl, hts]) (by
        rw [hparts']
        intro j p tr hp ht
        obtain ⟨o, _, h2⟩ := hR j p tr hp ht
        exact h2.tv), .st s _ (by
        rw [hparts']
        intro p hp
        obtain ⟨j, hj, rfl⟩ := List.mem_iff_getElem.1 hp
        have ht : ts[j]? = some (ts[j]'(by omega)) := by simp
        obtain ⟨o, _, h2⟩ := hR j _ _ (List.getElem?_eq_getElem hj) ht
        exact h2.ok), ?_, hcl, fun k l hk2 => ?_⟩
      · simp only [Tr.wf]
        exact ⟨hoffs, (wfL_iff _).2 hwf⟩
      · have := opn_parts (W := W) (cs := cs) (soffs s) ts 0 (ssz s) hoffs hwf (fun j o tr ho ht i l hl2 => by
          obtain ⟨p, o', h1, h2, h3⟩ := getj j tr ht
          have eo : o' = o := Option.some.inj (h2.symm.trans ho)
          subst eo
          have h4 := h3.vr i l hl2
          have hi : i < tsz p.1 := by
            rw [← h3.tv.shape.1, ← leaves_length tr h3.wf]; exact (List.getElem?_eq_some_iff.1 hl2).1
          have e4 : ((cs.drop o').take (tsz p.1)).getD i undef = cs.getD (o' + i) undef := by
            simp only [List.getD_eq_getElem?_getD, List.getElem?_take, if_pos hi, List.getElem?_drop]
          rw [e4] at h4
          exact h4) k l hk2
        rw [Nat.zero_add] at this
        exact this
end
end Go.Proofs.Ytnonimnhninafaa.Ab
