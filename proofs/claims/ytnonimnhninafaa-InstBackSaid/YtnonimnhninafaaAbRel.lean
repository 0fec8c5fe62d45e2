/- What a tree says of a value in a memory; memories that grow. -/
import Derived.Test.YtnonimnhninafaaAbTr
namespace Go.Proofs.Ytnonimnhninafaa.Ab
open Go

/-- What is known of an object of the call's own. -/
inductive AObj where
  | dead
  | cells (t : Tr)
  | row (e : TypeId) (sz : Nat) (xs : List Tr)
  deriving Inhabited

abbrev Heap := Nat → Nat × AObj

structure Mem where
  w : World
  Im : Nat → Prop
  β : Nat → Option (Nat × Nat)
  H : Heap

def OwnV (β : Option (Nat × Nat)) (sz lo len : Nat) (v : Value) : Prop :=
  match β with
  | none => v = .slice none 0 0 ∧ lo = 0 ∧ len = 0
  | some (b, K) => ∃ ad, v = .slice (some ad) len (K - lo) ∧ lo + len ≤ K ∧ (lo < K → ad = ⟨b, lo * sz, none⟩)

inductive VR (M : Mem) : Tr → Value → Prop
  | any (v : Value) : VR M .any v
  | int (k : IntKind) (n : Int) : VR M (.int k n) (.int k n)
  | bool (b : Bool) : VR M (.bool b) (.bool b)
  | str (s : ByteArray) : VR M (.str s) (.string s)
  | nilp : VR M .nilp (.pointer none)
  | nils : VR M .nils (.slice none 0 0)
  | nilf : VR M .nilf .nilFunc
  | ptr {d g : Nat} {p : List Nat} {off : Nat} {v : Value} (h1 : v.oneCell' = true) (hg : g ≤ (M.H d).1)
      (h : (M.H d).1 = g → ∃ b K, M.β d = some (b, K) ∧ v = .pointer (some ⟨b, off, none⟩)) : VR M (.ptr d g p off) v
  | iptr {x : Tr} {a : Addr} (vs : Nat → Value) (hs : a.spot = none) (hI : M.Im a.block) (hw : x.wf)
      (hc : ∀ i l, x.leaves[i]? = some l → M.w.cell? (a.add i) = some (vs i)) (hl : ∀ i l, x.leaves[i]? = some l → VR M l (vs i)) :
      VR M (.iptr x) (.pointer (some a))
  | own {d g lo len : Nat} {v : Value} (h1 : v.oneCell' = true) (hg : g ≤ (M.H d).1) (h : ∀ e sz xs, M.H d = (g, .row e sz xs) → OwnV (M.β d) sz lo len v) : VR M (.own d g lo len) v
  | sl {sz : Nat} {xs : List Tr} {a : Option Addr} {cap : Nat} (vs : Nat → Value) (hcap : xs.length ≤ cap) (hnil : a = none → cap = 0)
      (hw : ∀ x ∈ xs, x.wf ∧ x.size = sz) (hI : ∀ ad, a = some ad → 0 < xs.length → ad.spot = none ∧ M.Im ad.block)
      (hc : ∀ i l, (leavesL xs)[i]? = some l → ∃ ad, a = some ad ∧ M.w.cell? (ad.add i) = some (vs i)) (hl : ∀ i l, (leavesL xs)[i]? = some l → VR M l (vs i)) :
      VR M (.sl sz xs) (.slice a xs.length cap)
  | agg {t : Tr} {cs : Array Value} (ha : t.isAgg = true) (hw : t.wf) (hs : cs.size = t.size) (hl : ∀ i l, t.leaves[i]? = some l → VR M l (cs.getD i undef)) : VR M t (.agg cs)
  | tup {xs : List Tr} {vs : Array Value} (hs : vs.size = xs.length) (hl : ∀ i x, xs[i]? = some x → VR M x (vs.getD i undef)) : VR M (.tup xs) (.tuple vs)
  | clo {f : FuncId} {xs : List Tr} {vs : Array Value} (hs : vs.size = xs.length) (hl : ∀ i x, xs[i]? = some x → VR M x (vs.getD i undef)) : VR M (.clo f xs) (.func (.func f) #[] vs)

def ObjSame (o o' : AObj) : Prop := ∀ e sz xs', o' = .row e sz xs' → ∃ xs, o = .row e sz xs

structure Mono (M M' : Mem) : Prop where
  im : ∀ b, M.Im b → M'.Im b
  blk : ∀ b, M.Im b → M'.w.heap[b]? = M.w.heap[b]?
  gen : ∀ d, (M.H d).1 ≤ (M'.H d).1
  same : ∀ d, (M'.H d).1 = (M.H d).1 → M'.β d = M.β d ∧ ObjSame (M.H d).2 (M'.H d).2

theorem Mono.refl (M : Mem) : Mono M M := ⟨fun _ h => h, fun _ _ => rfl, fun _ => Nat.le_refl _, fun _ _ => ⟨rfl, fun _ _ xs h => ⟨xs, h⟩⟩⟩

theorem Mono.trans {M M' M'' : Mem} (h : Mono M M') (k : Mono M' M'') : Mono M M'' where
  im b hb := k.im b (h.im b hb)
  blk b hb := (k.blk b (h.im b hb)).trans (h.blk b hb)
  gen d := Nat.le_trans (h.gen d) (k.gen d)
  same d hd := by
    have h1 := h.gen d
    have h2 := k.gen d
    have e1 : (M'.H d).1 = (M.H d).1 := by omega
    have e2 : (M''.H d).1 = (M'.H d).1 := by omega
    obtain ⟨a1, a2⟩ := h.same d e1
    obtain ⟨b1, b2⟩ := k.same d e2
    refine ⟨b1.trans a1, fun e sz xs' hx => ?_⟩
    obtain ⟨ys, hy⟩ := b2 e sz xs' hx
    exact a2 e sz ys hy

theorem VR.mono {M M' : Mem} (h : Mono M M') {t : Tr} {v : Value} (hv : VR M t v) : VR M' t v := by
  induction hv with
  | any v => exact .any v
  | int k n => exact .int k n
  | bool b => exact .bool b
  | str s => exact .str s
  | nilp => exact .nilp
  | nils => exact .nils
  | nilf => exact .nilf
  | @ptr d g p off v h1 hg hp =>
    refine .ptr h1 (Nat.le_trans hg (h.gen d)) fun e => ?_
    have h1 := h.gen d
    have e1 : (M'.H d).1 = (M.H d).1 := by omega
    obtain ⟨b, K, hb, hv⟩ := hp (by omega)
    exact ⟨b, K, (h.same d e1).1.trans hb, hv⟩
  | @iptr x a vs hs hI hw hc hl ih =>
    refine .iptr vs hs (h.im _ hI) hw (fun i l hi => ?_) ih
    rw [World.cell?_of_block (w := M.w)]
    · exact hc i l hi
    · have : (a.add i).block = a.block := by unfold Addr.add; split <;> rfl
      rw [this]
      exact h.blk _ hI
  | @own d g lo len v h1 hg ho =>
    refine .own h1 (Nat.le_trans hg (h.gen d)) fun e sz xs hd => ?_
    have h1 := h.gen d
    have e1 : (M'.H d).1 = (M.H d).1 := by rw [hd] at h1 ⊢; simp at *; omega
    obtain ⟨hb, hs⟩ := h.same d e1
    obtain ⟨ys, hy⟩ := hs e sz xs (by rw [hd])
    have hd' : M.H d = (g, .row e sz ys) := by
      have : (M.H d).1 = g := by rw [← e1, hd]
      rw [← this, ← hy]
    rw [hb]
    exact ho e sz ys hd'
  | @sl sz xs a cap vs hcap hnil hw hI hc hl ih =>
    refine .sl vs hcap hnil hw (fun ad ha hp => ⟨(hI ad ha hp).1, h.im _ (hI ad ha hp).2⟩) (fun i l hi => ?_) ih
    obtain ⟨ad, ha, hcell⟩ := hc i l hi
    refine ⟨ad, ha, ?_⟩
    have hpos : 0 < xs.length := by
      rcases xs with _ | ⟨x, xs⟩
      · simp [leavesL] at hi
      · simp
    rw [World.cell?_of_block (w := M.w)]
    · exact hcell
    · have : (ad.add i).block = ad.block := by unfold Addr.add; split <;> rfl
      rw [this]
      exact h.blk _ (hI ad ha hpos).2
  | agg ha hw hs hl ih => exact .agg ha hw hs ih
  | tup hs hl ih => exact .tup hs ih
  | clo hs hl ih => exact .clo hs ih

/-- A leaf's value is one cell. -/
theorem VR.one {M : Mem} {t : Tr} {v : Value} (h : VR M t v) (hw : t.wf) (ha : t.isLeaf = true) : v.oneCell' = true := by
  cases h <;> first | rfl | assumption | exact absurd hw (by simp [Tr.wf]) | (cases t <;> simp_all [Tr.isAgg, Tr.isLeaf]) | (simp [Tr.isLeaf] at ha; done)

theorem VR.wf {M : Mem} {t : Tr} {v : Value} (h : VR M t v) (h1 : t ≠ .any) (h2 : ∀ xs, t ≠ .tup xs) : t.wf := by
  cases h <;> first | trivial | assumption | exact absurd rfl h1 | exact absurd rfl (h2 _) | skip
  rename_i sz xs a cap vs _ _ hw _ _ _
  simp only [Tr.wf]
  exact ⟨fun x hx => (hw x hx).2, (wfL_iff _).2 fun x hx => (hw x hx).1⟩

def Live (M : Mem) (d : Nat) : Prop := (M.H d).2 ≠ .dead

def ObjR (M : Mem) (d : Nat) : Prop :=
  match (M.H d).2 with
  | .dead => True
  | .cells t => t.wf ∧ ∃ b K c e, M.β d = some (b, K) ∧ M.w.heap[b]? = some (.cells c e (0, 0)) ∧ c.size = t.size ∧ ∀ i l, t.leaves[i]? = some l → VR M l (c.getD i undef)
  | .row e sz xs => 0 < sz ∧ (∀ x ∈ xs, x.wf ∧ x.size = sz) ∧
    match M.β d with
    | none => xs = []
    | some (b, K) => ∃ c, M.w.heap[b]? = some (.cells c e (0, 0)) ∧ c.size = K * sz ∧ xs.length ≤ K ∧ K ≤ maxLen ∧ ∀ i l, (leavesL xs)[i]? = some l → VR M l (c.getD i undef)

structure MemOK (M : Mem) : Prop where
  objs : ∀ d, ObjR M d
  inj : ∀ d d' b K K', d ≠ d' → Live M d → Live M d' → M.β d = some (b, K) → M.β d' = some (b, K') → False
  sep : ∀ d b K, Live M d → M.β d = some (b, K) → ¬ M.Im b
  lt : ∀ b, M.Im b → b < M.w.heap.size

/-- The frame of a call: the world in which it began, the blocks that it was lent, what never changes. -/
structure Base where
  w0 : World
  L0 : Nat → Prop
  Im0 : Nat → Prop

structure Fr (Φ : Base) (M : Mem) : Prop where
  os : M.w.os = Φ.w0.os
  tape : M.w.tape = Φ.w0.tape
  output : M.w.output = Φ.w0.output
  size : Φ.w0.heap.size ≤ M.w.heap.size
  blk : ∀ b, b < Φ.w0.heap.size → ¬ Φ.L0 b → M.w.heap[b]? = Φ.w0.heap[b]?
  own : ∀ d b K, Live M d → M.β d = some (b, K) → Φ.w0.heap.size ≤ b ∨ Φ.L0 b
  im0 : ∀ b, Φ.Im0 b → M.Im b
  im1 : ∀ b, M.Im b → Φ.Im0 b ∨ Φ.w0.heap.size ≤ b ∨ Φ.L0 b

def upd {α : Type} (f : Nat → α) (a : Nat) (x : α) : Nat → α := fun b => if b = a then x else f b
theorem upd_apply {α : Type} (f : Nat → α) (a : Nat) (x : α) (b : Nat) : upd f a x b = if b = a then x else f b := rfl
@[simp] theorem upd_same {α : Type} (f : Nat → α) (a : Nat) (x : α) : upd f a x a = x := by simp [upd]
theorem upd_ne {α : Type} (f : Nat → α) (a : Nat) (x : α) (b : Nat) (h : b ≠ a) : upd f a x b = f b := by simp [upd, h]

theorem ObjR.lt {M : Mem} {d b K : Nat} (h : ObjR M d) (hl : Live M d) (hb : M.β d = some (b, K)) : b < M.w.heap.size := by
  unfold ObjR at h
  unfold Live at hl
  split at h
  · rename_i e; exact absurd e hl
  · obtain ⟨_, b', K', c, e, hb', hc, _⟩ := h
    rw [hb] at hb'
    simp only [Option.some.injEq, Prod.mk.injEq] at hb'
    rw [hb'.1]
    exact (Array.getElem?_eq_some_iff.1 hc).1
  · rw [hb] at h
    obtain ⟨_, _, c, hc, _⟩ := h
    exact (Array.getElem?_eq_some_iff.1 hc).1

/-- An object stays known when the memory grows and its block is as it was. -/
theorem ObjR.mono {M M' : Mem} (hm : Mono M M') {d : Nat} (h : ObjR M d) (hH : M'.H d = M.H d)
    (hblk : ∀ b K, M.β d = some (b, K) → Live M d → M'.w.heap[b]? = M.w.heap[b]?) : ObjR M' d := by
  have hβ : M'.β d = M.β d := (hm.same d (by rw [hH])).1
  by_cases hl : Live M d
  · unfold ObjR at h ⊢
    rw [hH]
    split
    · trivial
    · rename_i t e
      rw [e] at h
      obtain ⟨hw, b, K, c, e', hb, hc, hs, hv⟩ := h
      exact ⟨hw, b, K, c, e', hβ.trans hb, (hblk b K hb hl).trans hc, hs, fun i l hi => (hv i l hi).mono hm⟩
    · rename_i e' sz xs e
      rw [e] at h
      obtain ⟨h0, hw, h2⟩ := h
      refine ⟨h0, hw, ?_⟩
      rw [hβ]
      cases hb : M.β d with
      | none => rw [hb] at h2; exact h2
      | some bK =>
        obtain ⟨b, K⟩ := bK
        rw [hb] at h2
        obtain ⟨c, hc, hs, hle, hK, hv⟩ := h2
        exact ⟨c, (hblk b K hb hl).trans hc, hs, hle, hK, fun i l hi => (hv i l hi).mono hm⟩
  · unfold Live at hl
    unfold ObjR
    rw [hH]
    simp only [ne_eq, Classical.not_not] at hl
    rw [hl]
    trivial

/-- A new block for a label. -/
def Mem.allocAt (M : Mem) (d K : Nat) (o : AObj) (c : Array Value) (e : TypeId) : Mem :=
  { w := M.w.alloc (.cells c e), Im := M.Im, β := upd M.β d (some (M.w.heap.size, K)), H := upd M.H d ((M.H d).1 + 1, o) }

theorem heap_alloc_im {M : Mem} (ok : MemOK M) (o : Obj) (b : Nat) (h : M.Im b) : (M.w.alloc o).heap[b]? = M.w.heap[b]? :=
  heap_alloc_old _ _ _ (ok.lt b h)

theorem Mem.allocAt_mono {M : Mem} (ok : MemOK M) (d K : Nat) (o : AObj) (c : Array Value) (e : TypeId) : Mono M (M.allocAt d K o c e) where
  im _ h := h
  blk b h := heap_alloc_im ok _ b h
  gen d' := by
    simp only [Mem.allocAt, upd]
    split
    · rename_i h; subst h; simp
    · exact Nat.le_refl _
  same d' h := by
    simp only [Mem.allocAt, upd] at h ⊢
    by_cases hd : d' = d
    · subst hd; simp at h
    · simp only [hd, if_false]
      exact ⟨trivial, fun _ _ xs hx => ⟨xs, hx⟩⟩

theorem Mem.allocAt_ok {M : Mem} (ok : MemOK M) (d K : Nat) (o : AObj) (c : Array Value) (e : TypeId)
    (ho : ObjR (M.allocAt d K o c e) d) : MemOK (M.allocAt d K o c e) where
  objs d' := by
    by_cases hd : d' = d
    · subst hd; exact ho
    · refine (ok.objs d').mono (Mem.allocAt_mono ok d K o c e) ?_ ?_
      · simp [Mem.allocAt, upd, hd]
      · intro b K' hb hl
        exact heap_alloc_old _ _ _ ((ok.objs d').lt hl hb)
  inj d1 d2 b K1 K2 hne h1 h2 e1 e2 := by
    simp only [Mem.allocAt, Live, upd] at h1 h2 e1 e2
    by_cases hd1 : d1 = d
    · have hd2 : d2 ≠ d := fun e => hne (hd1.trans e.symm)
      simp only [hd1, if_true, Option.some.injEq, Prod.mk.injEq] at e1
      simp only [hd2, if_false] at h2 e2
      have := (ok.objs d2).lt h2 e2
      omega
    · by_cases hd2 : d2 = d
      · simp only [hd2, if_true, Option.some.injEq, Prod.mk.injEq] at e2
        simp only [hd1, if_false] at h1 e1
        have := (ok.objs d1).lt h1 e1
        omega
      · simp only [hd1, hd2, if_false] at h1 h2 e1 e2
        exact ok.inj d1 d2 b K1 K2 hne h1 h2 e1 e2
  sep d' b K' hl hb := by
    simp only [Mem.allocAt, Live, upd] at hl hb ⊢
    by_cases hd : d' = d
    · simp only [hd, if_true, Option.some.injEq, Prod.mk.injEq] at hb
      intro hI
      have := ok.lt b hI
      omega
    · simp only [hd, if_false] at hl hb
      exact ok.sep d' b K' hl hb
  lt b h := by
    have := ok.lt b h
    simp only [Mem.allocAt, World.size_alloc]; omega

theorem Fr.allocAt {Φ : Base} {M : Mem} (h : Fr Φ M) (d K : Nat) (o : AObj) (c : Array Value) (e : TypeId) : Fr Φ (M.allocAt d K o c e) where
  os := h.os
  tape := h.tape
  output := h.output
  size := by have := h.size; simp only [Mem.allocAt, World.size_alloc]; omega
  blk b hb hL := by
    have := h.size
    exact (heap_alloc_old _ _ _ (by omega)).trans (h.blk b hb hL)
  own d' b K' hl hb := by
    simp only [Mem.allocAt, Live, upd] at hl hb
    by_cases hd : d' = d
    · simp only [hd, if_true, Option.some.injEq, Prod.mk.injEq] at hb
      have := h.size
      omega
    · simp only [hd, if_false] at hl hb
      exact h.own d' b K' hl hb
  im0 := h.im0
  im1 := h.im1

/-- A block of the call's own is written: label d, the same generation. -/
def Mem.writeAt (M : Mem) (d b : Nat) (o : AObj) (c : Array Value) : Mem :=
  { w := M.w.setRow b c, Im := M.Im, β := M.β, H := upd M.H d ((M.H d).1, o) }

theorem Mem.writeAt_mono {M : Mem} (ok : MemOK M) (d b K : Nat) (o : AObj) (c : Array Value) (hl : Live M d) (hb : M.β d = some (b, K)) (hs : ObjSame (M.H d).2 o) :
    Mono M (M.writeAt d b o c) where
  im _ h := h
  blk b' h := setRow_other _ _ _ _ (fun e => ok.sep d b K hl hb (e ▸ h))
  gen d' := by
    simp only [Mem.writeAt, upd]
    split
    · rename_i h; subst h; exact Nat.le_refl _
    · exact Nat.le_refl _
  same d' h := by
    simp only [Mem.writeAt, upd] at h ⊢
    by_cases hd : d' = d
    · subst hd; simpa using hs
    · simp only [hd, if_false]
      exact ⟨trivial, fun _ _ xs hx => ⟨xs, hx⟩⟩

theorem Mem.writeAt_ok {M : Mem} (ok : MemOK M) (d b K : Nat) (o : AObj) (c : Array Value) (hl : Live M d) (hb : M.β d = some (b, K)) (hs : ObjSame (M.H d).2 o)
    (ho : ObjR (M.writeAt d b o c) d) : MemOK (M.writeAt d b o c) where
  objs d' := by
    by_cases hd : d' = d
    · subst hd; exact ho
    · refine (ok.objs d').mono (Mem.writeAt_mono ok d b K o c hl hb hs) ?_ ?_
      · simp [Mem.writeAt, upd, hd]
      · intro b' K' hb' hl'
        refine setRow_other _ _ _ _ (fun e => ?_)
        subst e
        exact ok.inj d' d b' K' K hd hl' hl hb' hb
  inj d1 d2 b' K1 K2 hne h1 h2 e1 e2 := by
    refine ok.inj d1 d2 b' K1 K2 hne ?_ ?_ e1 e2
    · by_cases hd1 : d1 = d
      · rw [hd1]; exact hl
      · simpa [Mem.writeAt, Live, upd, hd1] using h1
    · by_cases hd2 : d2 = d
      · rw [hd2]; exact hl
      · simpa [Mem.writeAt, Live, upd, hd2] using h2
  sep d' b' K' hl' hb' := by
    refine ok.sep d' b' K' ?_ hb'
    by_cases hd : d' = d
    · rw [hd]; exact hl
    · simpa [Mem.writeAt, Live, upd, hd] using hl'
  lt b' h := by
    have := ok.lt b' h
    simp only [Mem.writeAt, size_setRow]; omega

theorem Fr.writeAt {Φ : Base} {M : Mem} (h : Fr Φ M) (d b K : Nat) (o : AObj) (c : Array Value) (hl : Live M d) (hb : M.β d = some (b, K)) : Fr Φ (M.writeAt d b o c) where
  os := h.os
  tape := h.tape
  output := h.output
  size := by have := h.size; simp only [Mem.writeAt, size_setRow]; omega
  blk b' hb' hL := by
    refine (setRow_other _ _ _ _ (fun e => ?_)).trans (h.blk b' hb' hL)
    subst e
    rcases h.own d b' K hl hb with h' | h'
    · omega
    · exact hL h'
  own d' b' K' hl' hb' := by
    refine h.own d' b' K' ?_ hb'
    by_cases hd : d' = d
    · rw [hd]; exact hl
    · simpa [Mem.writeAt, Live, upd, hd] using hl'
  im0 := h.im0
  im1 := h.im1

/-- The world draws; nothing else turns. -/
def Mem.drew (M : Mem) : Mem := { M with w := M.w.drew }
theorem Mem.drew_mono (M : Mem) : Mono M M.drew := ⟨fun _ h => h, fun _ _ => rfl, fun _ => Nat.le_refl _, fun _ _ => ⟨rfl, fun _ _ xs h => ⟨xs, h⟩⟩⟩
theorem Mem.drew_ok {M : Mem} (ok : MemOK M) : MemOK M.drew where
  objs d := (ok.objs d).mono M.drew_mono rfl (fun _ _ _ _ => rfl)
  inj := ok.inj
  sep := ok.sep
  lt := ok.lt
theorem Fr.drew {Φ : Base} {M : Mem} (h : Fr Φ M) : Fr Φ M.drew := ⟨h.os, h.tape, h.output, h.size, h.blk, h.own, h.im0, h.im1⟩

end Go.Proofs.Ytnonimnhninafaa.Ab
