/- Typed values as trees that never change; what a call is handed. -/
import Derived.Test.YtnonimnhninafaaAbV8
namespace Go.Proofs.Ytnonimnhninafaa.Ab
open Go

/-- The tree of a typed value. -/
def emb : Nat → (c : Ty) → den c → Tr
  | _, .int k, n => .int k n
  | _, .bool, b => .bool b
  | _, .str, s => .str s
  | n + 1, .sl c, xs => .sl (tsz c) (List.map (emb n c) xs)
  | n + 1, .arr m c, xs => .arr (tsz c) ((Vector.toList (n := m) (α := den c) xs).map (emb n c))
  | n + 1, .st s, x => .node (ssz s) (soffs s) ((parts s x).map fun p => emb n p.1 p.2)
  | 0, .sl _, _ => .any
  | 0, .arr _ _, _ => .any
  | 0, .st _, _ => .any
def dOK : Nat → Ty → Bool
  | _, .int _ => true
  | _, .bool => true
  | _, .str => true
  | n + 1, .sl c => dOK n c
  | n + 1, .arr _ c => dOK n c
  | n + 1, .st s => (tys s).all (dOK n)
  | 0, .sl _ => false
  | 0, .arr _ _ => false
  | 0, .st _ => false

theorem hparts_tys : ∀ (cs : List Ty) (h : HL cs), (hparts cs h).map (·.1) = cs
  | [], _ => rfl
  | c :: cs, h => by simp only [hparts, List.map_cons, hparts_tys cs h.2]
theorem parts_tys (s : SId) (x : SDen s) : (parts s x).map (·.1) = tys s := hparts_tys _ _
theorem parts_dOK {n : Nat} {s : SId} {x : SDen s} (h : ∀ c ∈ tys s, dOK n c = true) {p : TV} (hp : p ∈ parts s x) : dOK n p.1 = true := by
  refine h _ ?_
  rw [← parts_tys s x]
  exact List.mem_map_of_mem hp

theorem map_tvl {c : Ty} (xs : List (den c)) (f : den c → Tr) (h : ∀ x, TVR c x (f x)) : TVL c xs (xs.map f) := by
  refine ⟨by simp, fun i y t hy ht => ?_⟩
  rw [List.getElem?_map] at ht
  obtain ⟨z, hz, rfl⟩ := Option.map_eq_some_iff.1 ht
  have : z = y := Option.some.inj (hz.symm.trans hy)
  subst this
  exact h z

theorem emb_tvr : ∀ (n : Nat) (c : Ty) (x : den c), dOK n c = true → TVR c x (emb n c x) := by
  intro n
  induction n with
  | zero =>
    intro c x h
    cases c with
    | int k => exact .int k x
    | bool => exact .bool x
    | str => exact .str x
    | _ => simp [dOK] at h
  | succ n ih =>
    intro c x h
    cases c with
    | int k => exact .int k x
    | bool => exact .bool x
    | str => exact .str x
    | sl c =>
      have k := map_tvl (c := c) x (emb n c) fun z => ih c z h
      exact .sl (c := c) x _ k.1 k.2
    | arr m c =>
      have k := map_tvl (c := c) (Vector.toList (n := m) (α := den c) x) (emb n c) fun z => ih c z h
      exact .arr (c := c) (n := m) x _ (k.1.trans (vlen (c := c) x)) k.2
    | st s =>
      simp only [dOK, List.all_eq_true] at h
      refine .st s x _ (by simp) fun i p t hp ht => ?_
      rw [List.getElem?_map] at ht
      obtain ⟨z, hz, rfl⟩ := Option.map_eq_some_iff.1 ht
      have : z = p := Option.some.inj (hz.symm.trans hp)
      subst this
      exact ih _ _ (parts_dOK h (List.mem_of_getElem? hp))

theorem TVR.lf {c : Ty} {x : den c} {t : Tr} (h : TVR c x t) : t.lf = true := by
  induction h with
  | int => rfl
  | bool => rfl
  | str => rfl
  | nil => rfl
  | sl xs ts hl h ih =>
    simp only [Tr.lf, lfL_iff]
    intro t ht
    obtain ⟨i, hi, rfl⟩ := List.mem_iff_getElem.1 ht
    exact ih i (xs[i]'(by omega)) _ (by simp) (by simp)
  | @arr c n xs ts hl h ih =>
    simp only [Tr.lf, lfL_iff]
    intro t ht
    obtain ⟨i, hi, rfl⟩ := List.mem_iff_getElem.1 ht
    exact ih i (xs.toList[i]'(by simp; omega)) _ (by simp) (by simp)
  | st s x ts hl h ih =>
    simp only [Tr.lf, lfL_iff]
    intro t ht
    obtain ⟨i, hi, rfl⟩ := List.mem_iff_getElem.1 ht
    exact ih i ((parts s x)[i]'(by omega)) _ (by simp) (by simp)

/-- A tree that says less. -/
def LW (l l' : Tr) : Prop := ∀ (M : Mem) v, VR M l v → VR M l' v
def LWL (ls ls' : List Tr) : Prop := ls'.length = ls.length ∧ ∀ (i : Nat) l l', ls[i]? = some l → ls'[i]? = some l' → LW l l'

theorem LWL.append {a a' b b' : List Tr} (h : LWL a a') (k : LWL b b') : LWL (a ++ b) (a' ++ b') := by
  refine ⟨by simp [h.1, k.1], fun i l l' hl hl' => ?_⟩
  rw [List.getElem?_append] at hl hl'
  rw [h.1] at hl'
  split at hl
  · rename_i hi; rw [if_pos hi] at hl'; exact h.2 i l l' hl hl'
  · rename_i hi; rw [if_neg hi] at hl'; exact k.2 _ l l' hl hl'

theorem LWL.leaves : ∀ {ts ts' : List Tr}, ts'.length = ts.length → (∀ (i : Nat) t t', ts[i]? = some t → ts'[i]? = some t' → LWL t.leaves t'.leaves) → LWL (leavesL ts) (leavesL ts')
  | [], [], _, _ => ⟨rfl, fun i l l' h => by simp [leavesL] at h⟩
  | t :: ts, t' :: ts', hl, h => by
    simp only [leavesL]
    exact (h 0 t t' rfl rfl).append (LWL.leaves (by simpa using hl) fun i u u' hu hu' => h (i + 1) u u' (by simpa using hu) (by simpa using hu'))
  | [], _ :: _, hl, _ => by simp at hl
  | _ :: _, [], hl, _ => by simp at hl

theorem LW.one {l l' : Tr} (h : LW l l') : LWL [l] [l'] := ⟨rfl, fun i a b ha hb => by
  cases i with
  | zero => simp at ha hb; subst ha hb; exact h
  | succ i => simp at ha⟩

theorem list_lw {α : Type} {xs : List α} {ts : List Tr} {f : α → Tr} (hl : ts.length = xs.length) (h : ∀ (i : Nat) x t, xs[i]? = some x → ts[i]? = some t → LWL t.leaves (f x).leaves ∧ (t.wf → (f x).wf) ∧ (f x).size = t.size) :
    LWL (leavesL ts) (leavesL (xs.map f)) ∧ (wfL ts → wfL (xs.map f)) ∧ (xs.map f).map Tr.size = ts.map Tr.size := by
  have key : ∀ (i : Nat) t t', ts[i]? = some t → (xs.map f)[i]? = some t' → ∃ x, xs[i]? = some x ∧ t' = f x := fun i t t' ht ht' => by
    rw [List.getElem?_map] at ht'
    obtain ⟨x, hx, rfl⟩ := Option.map_eq_some_iff.1 ht'
    exact ⟨x, hx, rfl⟩
  refine ⟨LWL.leaves (by simp [hl]) fun i t t' ht ht' => ?_, fun hw => ?_, ?_⟩
  · obtain ⟨x, hx, rfl⟩ := key i t t' ht ht'
    exact (h i x t hx ht).1
  · rw [wfL_iff] at hw ⊢
    intro t' ht'
    obtain ⟨i, hi, rfl⟩ := List.mem_iff_getElem.1 ht'
    have hi' : i < xs.length := by simpa using hi
    have := (h i xs[i] (ts[i]'(by omega)) (by simp) (by simp)).2.1 (hw _ (List.getElem_mem _))
    simpa using this
  · apply List.ext_getElem?
    intro i
    by_cases hi : i < xs.length
    · have := (h i xs[i] (ts[i]'(by omega)) (by simp) (by simp)).2.2
      simp [hi, hl, this]
    · simp [hi, hl]

theorem offsOK_sizes : ∀ {os : List Nat} {xs ys : List Tr} {a sz : Nat}, xs.map Tr.size = ys.map Tr.size → offsOK os ys a sz → offsOK os xs a sz
  | [], [], [], _, _, _, h => h
  | o :: os, x :: xs, y :: ys, a, sz, hs, h => by
    simp only [List.map_cons, List.cons.injEq] at hs
    simp only [offsOK] at h ⊢
    exact ⟨h.1, by rw [hs.1]; exact offsOK_sizes hs.2 h.2⟩
  | [], _ :: _, [], _, _, hs, _ => by simp at hs
  | [], [], _ :: _, _, _, hs, _ => by simp at hs
  | _ :: _, [], [], _, _, _, h => by simp [offsOK] at h
  | _ :: _, [], _ :: _, _, _, hs, _ => by simp at hs
  | _ :: _, _ :: _, [], _, _, hs, _ => by simp at hs
  | [], _ :: _, _ :: _, _, _, _, h => by simp [offsOK] at h

theorem TVR.weak {c : Ty} {x : den c} {t : Tr} (h : TVR c x t) : ∀ n, dOK n c = true → LWL t.leaves (emb n c x).leaves ∧ (t.wf → (emb n c x).wf) := by
  induction h with
  | int k a => intro n _; cases n <;> exact ⟨LW.one fun _ _ h => h, fun h => h⟩
  | bool b => intro n _; cases n <;> exact ⟨LW.one fun _ _ h => h, fun h => h⟩
  | str s => intro n _; cases n <;> exact ⟨LW.one fun _ _ h => h, fun h => h⟩
  | nil c =>
    intro n hn
    cases n with
    | zero => simp [dOK] at hn
    | succ n =>
      refine ⟨LW.one fun M v h => ?_, fun _ => ?_⟩
      · have := h.nils_inv
        subst this
        exact .sl (fun _ => undef) (Nat.le_refl _) (fun _ => rfl) (by simp) (by simp) (by simp [leavesL]) (by simp [leavesL])
      · simp [emb, Tr.wf, wfL]
  | @sl c xs ts hl ht ih =>
    intro n hn
    cases n with
    | zero => simp [dOK] at hn
    | succ n =>
      have key := list_lw (f := emb n c) hl fun i x t hx ht' => ⟨(ih i x t hx ht' n hn).1, (ih i x t hx ht' n hn).2, by rw [(emb_tvr n c x hn).shape.1, (ht i x t hx ht').shape.1]⟩
      obtain ⟨k1, k2, k3⟩ := key
      refine ⟨LW.one fun M v h => ?_, fun h => ?_⟩
      · obtain ⟨a, cap, vs, rfl, h1, h2, h3, h4, h5, h6⟩ := h.sl_inv
        have hlen : (xs.map (emb n c)).length = ts.length := by simp [hl]
        rw [← hlen]
        refine .sl vs (by rw [hlen]; exact h1) h2 (fun y hy => ?_) (fun ad ha hp => h4 ad ha (by rw [hlen] at hp; exact hp)) (fun i l hi => ?_) (fun i l hi => ?_)
        · refine ⟨(wfL_iff _).1 (k2 ((wfL_iff _).2 fun z hz => (h3 z hz).1)) y hy, ?_⟩
          obtain ⟨z, hz, rfl⟩ := List.mem_map.1 hy
          exact (emb_tvr n c z hn).shape.1
        · obtain ⟨l0, hl0⟩ := get_of_len (ts := leavesL ts) k1.1.symm hi
          exact h5 i l0 hl0
        · obtain ⟨l0, hl0⟩ := get_of_len (ts := leavesL ts) k1.1.symm hi
          exact k1.2 i l0 l hl0 hi _ _ (h6 i l0 hl0)
      · simp only [Tr.wf] at h
        simp only [emb, Tr.wf]
        exact ⟨fun y hy => by
          obtain ⟨z, hz, rfl⟩ := List.mem_map.1 hy
          exact (emb_tvr n c z hn).shape.1, k2 h.2⟩
  | @arr c m xs ts hl ht ih =>
    intro n hn
    cases n with
    | zero => simp [dOK] at hn
    | succ n =>
      have key := list_lw (xs := xs.toList) (f := emb n c) (by rw [hl]; exact (vlen (c := c) xs).symm) fun i x t hx ht' => ⟨(ih i x t hx ht' n hn).1, (ih i x t hx ht' n hn).2, by rw [(emb_tvr n c x hn).shape.1, (ht i x t hx ht').shape.1]⟩
      refine ⟨key.1, fun h => ?_⟩
      simp only [Tr.wf] at h
      simp only [emb, Tr.wf]
      exact ⟨fun y hy => by
        obtain ⟨z, hz, rfl⟩ := List.mem_map.1 hy
        exact (emb_tvr n c z hn).shape.1, key.2.1 h.2⟩
  | st s x ts hl ht ih =>
    intro n hn
    cases n with
    | zero => simp [dOK] at hn
    | succ n =>
      simp only [dOK, List.all_eq_true] at hn
      have key := list_lw (xs := parts s x) (f := fun p => emb n p.1 p.2) hl fun i p t hx ht' => ⟨(ih i p t hx ht' n (parts_dOK hn (List.mem_of_getElem? hx))).1, (ih i p t hx ht' n (parts_dOK hn (List.mem_of_getElem? hx))).2, by rw [(emb_tvr n p.1 p.2 (parts_dOK hn (List.mem_of_getElem? hx))).shape.1, (ht i p t hx ht').shape.1]⟩
      refine ⟨key.1, fun h => ?_⟩
      simp only [Tr.wf] at h
      simp only [emb, Tr.wf]
      exact ⟨offsOK_sizes key.2.2 h.1, key.2.1 h.2⟩

theorem TVR.lw {c : Ty} {x : den c} {t : Tr} (h : TVR c x t) {n : Nat} (hn : dOK n c = true) : LW t (emb n c x) := by
  intro M v hv
  obtain ⟨k1, k2⟩ := h.weak n hn
  have e := (emb_tvr n c x hn)
  have agg : t.isAgg = true → VR M (emb n c x) v := fun ha => by
    obtain ⟨cs, rfl, hw, hs, hl⟩ := hv.agg_inv ha
    refine .agg (by rw [e.shape.2.1, ← h.shape.2.1]; exact ha) (k2 hw) (by rw [hs, h.shape.1, e.shape.1]) fun i l hi => ?_
    obtain ⟨l0, hl0⟩ := get_of_len (ts := t.leaves) k1.1.symm hi
    exact k1.2 i l0 l hl0 hi _ _ (hl i l0 hl0)
  cases h with
  | int k a => cases n <;> exact hv
  | bool b => cases n <;> exact hv
  | str s => cases n <;> exact hv
  | nil c =>
    cases n with
    | zero => simp [dOK] at hn
    | succ n => exact k1.2 0 _ _ rfl rfl M v hv
  | sl xs ts hl ht =>
    cases n with
    | zero => simp [dOK] at hn
    | succ n => exact k1.2 0 _ _ rfl rfl M v hv
  | arr => exact agg rfl
  | st => exact agg rfl

def embs (cs : List Ty) (h : HL cs) : List Tr := (hparts cs h).map fun p => emb 20 p.1 p.2
def dOKs (cs : List Ty) : Bool := cs.all (dOK 20)
def embR (cs : List Ty) (h : HL cs) : Tr := retOf (embs cs h)
def ofR : (cs : List Ty) → HL cs → V
  | [c], h => V.of c h.1
  | cs, h => .tup ((hparts cs h).map fun p => V.of p.1 p.2)

/-- What a function computes on typed values. -/
structure Con where
  ps : List Ty
  r : List Ty
  m : HL ps → Option (HL r)

def ConOK (P : Program) (f : FuncId) (con : Con) : Prop :=
  dOKs con.ps = true ∧ dOKs con.r = true ∧ ∀ (x : HL con.ps) (y : HL con.r), con.m x = some y → ACall P f (embs con.ps x) fun r _ => r = embR con.r y

end Go.Proofs.Ytnonimnhninafaa.Ab
