/- Trees of Go values: the abstract values of the calculus, their leaves, their parts. -/
import Derived.Laws.OwnMore
import Derived.Laws.CopyOwn
import Derived.Laws.StructEq
import Derived.Deep.MidRow
import Derived.Deep.LoopGhost
import Derived.Below
import Derived.Tactics
import Derived.Still
import Derived.Scope
import Derived.KernelRfl
namespace Go.Proofs.Ytnonimnhninafaa.Ab
open Go
set_option linter.unusedVariables false
set_option linter.unusedSimpArgs false

/-- A tree: what is known of a Go value. -/
inductive Tr where
  | any
  | int (k : IntKind) (n : Int)
  | bool (b : Bool)
  | str (s : ByteArray)
  | nilp
  | nils
  | nilf
  | ptr (d g : Nat) (p : List Nat) (off : Nat)
  | iptr (x : Tr)
  | own (d g lo len : Nat)
  | sl (sz : Nat) (xs : List Tr)
  | node (sz : Nat) (offs : List Nat) (xs : List Tr)
  | arr (sz : Nat) (xs : List Tr)
  | tup (xs : List Tr)
  | clo (f : FuncId) (caps : List Tr)
  deriving Inhabited

def Tr.size : Tr → Nat
  | .node sz _ _ => sz
  | .arr sz xs => sz * xs.length
  | _ => 1

@[simp] theorem size_node (sz : Nat) (offs : List Nat) (xs : List Tr) : (Tr.node sz offs xs).size = sz := rfl
@[simp] theorem size_arr (sz : Nat) (xs : List Tr) : (Tr.arr sz xs).size = sz * xs.length := rfl

mutual
def Tr.leaves : Tr → List Tr
  | .node _ _ xs => leavesL xs
  | .arr _ xs => leavesL xs
  | .any => [.any]
  | .int k n => [.int k n]
  | .bool b => [.bool b]
  | .str s => [.str s]
  | .nilp => [.nilp]
  | .nils => [.nils]
  | .nilf => [.nilf]
  | .ptr d g p o => [.ptr d g p o]
  | .iptr x => [.iptr x]
  | .own d g l n => [.own d g l n]
  | .sl sz xs => [.sl sz xs]
  | .tup xs => [.tup xs]
  | .clo f xs => [.clo f xs]
def leavesL : List Tr → List Tr
  | [] => []
  | x :: xs => x.leaves ++ leavesL xs
end

def offsOK : List Nat → List Tr → Nat → Nat → Prop
  | [], [], a, sz => a = sz
  | o :: os, x :: xs, a, sz => o = a ∧ offsOK os xs (a + x.size) sz
  | _, _, _, _ => False

mutual
def Tr.wf : Tr → Prop
  | .node sz offs xs => offsOK offs xs 0 sz ∧ wfL xs
  | .arr sz xs => (∀ x ∈ xs, x.size = sz) ∧ wfL xs
  | .sl sz xs => (∀ x ∈ xs, x.size = sz) ∧ wfL xs
  | .iptr x => x.wf
  | .any => False
  | .tup _ => False
  | _ => True
def wfL : List Tr → Prop
  | [] => True
  | x :: xs => x.wf ∧ wfL xs
end

/-- Is a tree an aggregate (several cells by value)? -/
def Tr.isAgg : Tr → Bool
  | .node _ _ _ => true
  | .arr _ _ => true
  | _ => false

/-- Is a tree a leaf: one cell? -/
def Tr.isLeaf : Tr → Bool
  | .node _ _ _ => false
  | .arr _ _ => false
  | .tup _ => false
  | _ => true

theorem wfL_iff : ∀ xs : List Tr, wfL xs ↔ ∀ x ∈ xs, x.wf
  | [] => by simp [wfL]
  | x :: xs => by simp [wfL, wfL_iff xs]

theorem leavesL_append : ∀ xs ys : List Tr, leavesL (xs ++ ys) = leavesL xs ++ leavesL ys
  | [], ys => by simp [leavesL]
  | x :: xs, ys => by simp [leavesL, leavesL_append xs ys]

theorem offsOK_sum : ∀ (os : List Nat) (xs : List Tr) (a sz : Nat), offsOK os xs a sz → a + (xs.map Tr.size).sum = sz
  | [], [], a, sz, h => by simpa [offsOK] using h
  | o :: os, x :: xs, a, sz, h => by
    simp only [offsOK] at h
    have := offsOK_sum os xs _ _ h.2
    simp; omega
  | [], _ :: _, _, _, h => by simp [offsOK] at h
  | _ :: _, [], _, _, h => by simp [offsOK] at h

theorem offsOK_length : ∀ (os : List Nat) (xs : List Tr) (a sz : Nat), offsOK os xs a sz → os.length = xs.length
  | [], [], _, _, _ => rfl
  | o :: os, x :: xs, a, sz, h => by
    simp only [offsOK] at h
    simp [offsOK_length os xs _ _ h.2]
  | [], _ :: _, _, _, h => by simp [offsOK] at h
  | _ :: _, [], _, _, h => by simp [offsOK] at h

theorem offsOK_get : ∀ (os : List Nat) (xs : List Tr) (a sz i o : Nat), offsOK os xs a sz → os[i]? = some o → o = a + ((xs.take i).map Tr.size).sum
  | o' :: os, x :: xs, a, sz, 0, o, h, hi => by
    simp only [offsOK] at h
    simp at hi
    simp; omega
  | o' :: os, x :: xs, a, sz, i + 1, o, h, hi => by
    simp only [offsOK] at h
    have := offsOK_get os xs _ _ i o h.2 (by simpa using hi)
    simp only [List.take_succ_cons, List.map_cons, List.sum_cons]; omega
  | [], [], _, _, _, _, _, hi => by simp at hi
  | [], _ :: _, _, _, _, _, h, _ => by simp [offsOK] at h
  | _ :: _, [], _, _, _, _, h, _ => by simp [offsOK] at h

theorem sum_size_const (sz : Nat) : ∀ xs : List Tr, (∀ x ∈ xs, x.size = sz) → (xs.map Tr.size).sum = sz * xs.length
  | [], _ => by simp
  | x :: xs, h => by
    have := sum_size_const sz xs (fun y hy => h y (by simp [hy]))
    simp [this, h x (by simp), Nat.mul_add]; omega

mutual
theorem leaves_length : ∀ t : Tr, t.wf → t.leaves.length = t.size
  | .node sz offs xs, h => by
    simp only [Tr.wf] at h
    have h1 := leavesL_length xs h.2
    have h2 := offsOK_sum _ _ _ _ h.1
    simp only [Tr.leaves, Tr.size, h1]; omega
  | .arr sz xs, h => by
    simp only [Tr.wf] at h
    have h1 := leavesL_length xs h.2
    simp only [Tr.leaves, Tr.size, h1, sum_size_const sz xs h.1]
  | .any, h => by simp [Tr.wf] at h
  | .int .., _ => rfl
  | .bool .., _ => rfl
  | .str .., _ => rfl
  | .nilp, _ => rfl
  | .nils, _ => rfl
  | .nilf, _ => rfl
  | .ptr .., _ => rfl
  | .iptr .., _ => rfl
  | .own .., _ => rfl
  | .sl .., _ => rfl
  | .tup .., h => by simp [Tr.wf] at h
  | .clo .., _ => rfl
theorem leavesL_length : ∀ xs : List Tr, wfL xs → (leavesL xs).length = (xs.map Tr.size).sum
  | [], _ => rfl
  | x :: xs, h => by
    simp only [wfL] at h
    simp [leavesL, leaves_length x h.1, leavesL_length xs h.2]
end

mutual
theorem leaves_wf : ∀ t : Tr, t.wf → ∀ l ∈ t.leaves, l.wf ∧ l.isLeaf = true
  | .node sz offs xs, h, l, hl => by
    simp only [Tr.wf] at h
    exact leavesL_wf xs h.2 l (by simpa [Tr.leaves] using hl)
  | .arr sz xs, h, l, hl => by
    simp only [Tr.wf] at h
    exact leavesL_wf xs h.2 l (by simpa [Tr.leaves] using hl)
  | .any, h, _, _ => by simp [Tr.wf] at h
  | .int .., h, l, hl => by simp only [Tr.leaves, List.mem_singleton] at hl; subst hl; exact ⟨h, rfl⟩
  | .bool .., h, l, hl => by simp only [Tr.leaves, List.mem_singleton] at hl; subst hl; exact ⟨h, rfl⟩
  | .str .., h, l, hl => by simp only [Tr.leaves, List.mem_singleton] at hl; subst hl; exact ⟨h, rfl⟩
  | .nilp, h, l, hl => by simp only [Tr.leaves, List.mem_singleton] at hl; subst hl; exact ⟨h, rfl⟩
  | .nils, h, l, hl => by simp only [Tr.leaves, List.mem_singleton] at hl; subst hl; exact ⟨h, rfl⟩
  | .nilf, h, l, hl => by simp only [Tr.leaves, List.mem_singleton] at hl; subst hl; exact ⟨h, rfl⟩
  | .ptr .., h, l, hl => by simp only [Tr.leaves, List.mem_singleton] at hl; subst hl; exact ⟨h, rfl⟩
  | .iptr .., h, l, hl => by simp only [Tr.leaves, List.mem_singleton] at hl; subst hl; exact ⟨h, rfl⟩
  | .own .., h, l, hl => by simp only [Tr.leaves, List.mem_singleton] at hl; subst hl; exact ⟨h, rfl⟩
  | .sl .., h, l, hl => by simp only [Tr.leaves, List.mem_singleton] at hl; subst hl; exact ⟨h, rfl⟩
  | .tup .., h, _, _ => by simp [Tr.wf] at h
  | .clo .., h, l, hl => by simp only [Tr.leaves, List.mem_singleton] at hl; subst hl; exact ⟨h, rfl⟩
theorem leavesL_wf : ∀ xs : List Tr, wfL xs → ∀ l ∈ leavesL xs, l.wf ∧ l.isLeaf = true
  | [], _, l, hl => by simp [leavesL] at hl
  | x :: xs, h, l, hl => by
    simp only [wfL] at h
    simp only [leavesL, List.mem_append] at hl
    rcases hl with hl | hl
    · exact leaves_wf x h.1 l hl
    · exact leavesL_wf xs h.2 l hl
end

/-- The part of a tree at a path, and where it lies. -/
def Tr.atF : Nat → List Nat → Tr → Option (Nat × Tr)
  | acc, [], t => some (acc, t)
  | acc, i :: p, .node _ offs xs =>
    match offs[i]?, xs[i]? with
    | some o, some x => Tr.atF (acc + o) p x
    | _, _ => none
  | acc, i :: p, .arr sz xs =>
    match xs[i]? with
    | some x => Tr.atF (acc + i * sz) p x
    | none => none
  | _, _ :: _, _ => none

/-- The tree with another part at a path. -/
def Tr.setF : List Nat → Tr → Tr → Option Tr
  | [], new, _ => some new
  | i :: p, new, .node sz offs xs =>
    match xs[i]? with
    | some x => (Tr.setF p new x).map fun y => .node sz offs (xs.set i y)
    | none => none
  | i :: p, new, .arr sz xs =>
    match xs[i]? with
    | some x => (Tr.setF p new x).map fun y => .arr sz (xs.set i y)
    | none => none
  | _ :: _, _, _ => none

theorem leavesL_split (xs : List Tr) (i : Nat) (x : Tr) (h : xs[i]? = some x) :
    leavesL xs = leavesL (xs.take i) ++ (x.leaves ++ leavesL (xs.drop (i + 1))) := by
  have hl : i < xs.length := (List.getElem?_eq_some_iff.1 h).1
  have hx : xs[i] = x := (List.getElem?_eq_some_iff.1 h).2
  have e : xs = xs.take i ++ (x :: xs.drop (i + 1)) := by
    rw [← hx, ← List.drop_eq_getElem_cons hl, List.take_append_drop]
  conv => lhs; rw [e]
  rw [leavesL_append]
  simp [leavesL]

theorem wfL_get {xs : List Tr} {i : Nat} {x : Tr} (hw : wfL xs) (h : xs[i]? = some x) : x.wf :=
  (wfL_iff xs).1 hw x (List.mem_of_getElem? h)

theorem wfL_take {xs : List Tr} (hw : wfL xs) (i : Nat) : wfL (xs.take i) :=
  (wfL_iff _).2 fun x hx => (wfL_iff xs).1 hw x (List.mem_of_mem_take hx)

theorem wfL_drop {xs : List Tr} (hw : wfL xs) (i : Nat) : wfL (xs.drop i) :=
  (wfL_iff _).2 fun x hx => (wfL_iff xs).1 hw x (List.mem_of_mem_drop hx)

theorem take_drop_mid {α : Type} (A B C : List α) (k n : Nat) (hk : A.length = k) (hn : B.length = n) : ((A ++ (B ++ C)).drop k).take n = B := by
  subst hk; subst hn; simp

theorem at_leaves : ∀ (p : List Nat) (t : Tr) (acc o : Nat) (u : Tr), t.wf → t.atF acc p = some (o, u) →
    u.wf ∧ ∃ k, o = acc + k ∧ k + u.size ≤ t.size ∧ (t.leaves.drop k).take u.size = u.leaves
  | [], t, acc, o, u, hw, h => by
    simp only [Tr.atF, Option.some.injEq, Prod.mk.injEq] at h
    obtain ⟨rfl, rfl⟩ := h
    exact ⟨hw, 0, rfl, by simp, by rw [← leaves_length t hw]; simp⟩
  | i :: p, .node sz offs xs, acc, o, u, hw, h => by
    simp only [Tr.atF] at h
    split at h
    · rename_i o1 x ho hx
      simp only [Tr.wf] at hw
      have hxw := wfL_get hw.2 hx
      obtain ⟨huw, k, hk, hle, hl⟩ := at_leaves p x _ o u hxw h
      have ho1 := offsOK_get _ _ _ _ _ _ hw.1 ho
      have hlen : (leavesL (xs.take i)).length = o1 := by rw [leavesL_length _ (wfL_take hw.2 i)]; omega
      have hsplit := leavesL_split xs i x hx
      have hxl := leaves_length x hxw
      have htot : (leavesL xs).length = sz := by
        have := leaves_length (.node sz offs xs) (by simp only [Tr.wf]; exact hw)
        simpa [Tr.leaves, Tr.size] using this
      refine ⟨huw, o1 + k, by omega, ?_, ?_⟩
      · simp only [size_node, size_arr]
        rw [hsplit] at htot
        simp only [List.length_append] at htot
        omega
      · simp only [Tr.leaves]
        rw [hsplit, ← List.drop_drop, ← hlen, List.drop_left, ← hl]
        rw [List.drop_append_of_le_length (by omega), List.take_append_of_le_length (by simp; omega)]
    · cases h
  | i :: p, .arr sz xs, acc, o, u, hw, h => by
    simp only [Tr.atF] at h
    split at h
    · rename_i x hx
      simp only [Tr.wf] at hw
      have hxw := wfL_get hw.2 hx
      obtain ⟨huw, k, hk, hle, hl⟩ := at_leaves p x _ o u hxw h
      have hi : i < xs.length := (List.getElem?_eq_some_iff.1 hx).1
      have hlen : (leavesL (xs.take i)).length = i * sz := by
        rw [leavesL_length _ (wfL_take hw.2 i), sum_size_const sz _ (fun y hy => hw.1 y (List.mem_of_mem_take hy))]
        simp [Nat.min_eq_left (Nat.le_of_lt hi), Nat.mul_comm]
      have hsplit := leavesL_split xs i x hx
      have hxl := leaves_length x hxw
      have htot : (leavesL xs).length = sz * xs.length := by
        have := leaves_length (.arr sz xs) (by simp only [Tr.wf]; exact hw)
        simpa [Tr.leaves, Tr.size] using this
      refine ⟨huw, i * sz + k, by omega, ?_, ?_⟩
      · simp only [size_node, size_arr]
        rw [hsplit] at htot
        simp only [List.length_append] at htot
        omega
      · simp only [Tr.leaves]
        rw [hsplit, ← List.drop_drop, ← hlen, List.drop_left, ← hl]
        rw [List.drop_append_of_le_length (by omega), List.take_append_of_le_length (by simp; omega)]
    · cases h
  | _ :: _, .any, _, _, _, _, h => by simp [Tr.atF] at h
  | _ :: _, .int .., _, _, _, _, h => by simp [Tr.atF] at h
  | _ :: _, .bool .., _, _, _, _, h => by simp [Tr.atF] at h
  | _ :: _, .str .., _, _, _, _, h => by simp [Tr.atF] at h
  | _ :: _, .nilp, _, _, _, _, h => by simp [Tr.atF] at h
  | _ :: _, .nils, _, _, _, _, h => by simp [Tr.atF] at h
  | _ :: _, .nilf, _, _, _, _, h => by simp [Tr.atF] at h
  | _ :: _, .ptr .., _, _, _, _, h => by simp [Tr.atF] at h
  | _ :: _, .iptr .., _, _, _, _, h => by simp [Tr.atF] at h
  | _ :: _, .own .., _, _, _, _, h => by simp [Tr.atF] at h
  | _ :: _, .sl .., _, _, _, _, h => by simp [Tr.atF] at h
  | _ :: _, .tup .., _, _, _, _, h => by simp [Tr.atF] at h
  | _ :: _, .clo .., _, _, _, _, h => by simp [Tr.atF] at h

theorem offsOK_set : ∀ (os : List Nat) (xs : List Tr) (a sz i : Nat) (x y : Tr), offsOK os xs a sz → xs[i]? = some x → y.size = x.size → offsOK os (xs.set i y) a sz
  | o :: os, x' :: xs, a, sz, 0, x, y, h, hx, hs => by
    simp only [offsOK] at h
    simp at hx
    subst hx
    simp only [List.set_cons_zero, offsOK, hs]
    exact h
  | o :: os, x' :: xs, a, sz, i + 1, x, y, h, hx, hs => by
    simp only [offsOK] at h
    simp only [List.set_cons_succ, offsOK]
    exact ⟨h.1, offsOK_set os xs _ _ i x y h.2 (by simpa using hx) hs⟩
  | [], [], _, _, _, _, _, _, hi, _ => by simp at hi
  | [], _ :: _, _, _, _, _, _, h, _, _ => by simp [offsOK] at h
  | _ :: _, [], _, _, _, _, _, h, _, _ => by simp [offsOK] at h

theorem wfL_set {xs : List Tr} (hw : wfL xs) (i : Nat) {y : Tr} (hy : y.wf) : wfL (xs.set i y) :=
  (wfL_iff _).2 fun z hz => by
    rcases List.mem_or_eq_of_mem_set hz with h | rfl
    · exact (wfL_iff xs).1 hw z h
    · exact hy

theorem leavesL_set (xs : List Tr) (i : Nat) (x y : Tr) (h : xs[i]? = some x) :
    leavesL (xs.set i y) = leavesL (xs.take i) ++ (y.leaves ++ leavesL (xs.drop (i + 1))) := by
  have hi : i < xs.length := (List.getElem?_eq_some_iff.1 h).1
  have := leavesL_split (xs.set i y) i y (by simp [hi])
  rw [this, List.take_set_of_le (Nat.le_refl i), List.drop_set_of_lt (Nat.lt_succ_self i)]

/-- What setting a part does to the leaves. -/
theorem set_leaves : ∀ (p : List Nat) (t : Tr) (acc o : Nat) (u new : Tr), t.wf → t.atF acc p = some (o, u) → new.wf → new.size = u.size →
    ∃ t' k, Tr.setF p new t = some t' ∧ t'.wf ∧ t'.size = t.size ∧ o = acc + k ∧ k + u.size ≤ t.size ∧ t'.leaves = t.leaves.take k ++ (new.leaves ++ t.leaves.drop (k + u.size))
  | [], t, acc, o, u, new, hw, h, hn, hs => by
    simp only [Tr.atF, Option.some.injEq, Prod.mk.injEq] at h
    obtain ⟨rfl, rfl⟩ := h
    exact ⟨new, 0, rfl, hn, hs, rfl, by simp, by rw [← leaves_length t hw]; simp⟩
  | i :: p, .node sz offs xs, acc, o, u, new, hw, h, hn, hs => by
    simp only [Tr.atF] at h
    split at h
    · rename_i o1 x ho hx
      simp only [Tr.wf] at hw
      have hxw := wfL_get hw.2 hx
      obtain ⟨x', k, hset, hx'w, hx's, hk, hle, hl⟩ := set_leaves p x _ o u new hxw h hn hs
      have ho1 := offsOK_get _ _ _ _ _ _ hw.1 ho
      have hlen : (leavesL (xs.take i)).length = o1 := by rw [leavesL_length _ (wfL_take hw.2 i)]; omega
      have hsplit := leavesL_split xs i x hx
      have hxl := leaves_length x hxw
      have htot : (leavesL xs).length = sz := by
        have := leaves_length (.node sz offs xs) (by simp only [Tr.wf]; exact hw)
        simpa [Tr.leaves, Tr.size] using this
      refine ⟨.node sz offs (xs.set i x'), o1 + k, ?_, ?_, rfl, by omega, ?_, ?_⟩
      · simp only [Tr.setF, hx, hset, Option.map_some]
      · simp only [Tr.wf]
        exact ⟨offsOK_set _ _ _ _ _ _ _ hw.1 hx hx's, wfL_set hw.2 i hx'w⟩
      · simp only [size_node, size_arr]
        rw [hsplit] at htot
        simp only [List.length_append] at htot
        omega
      · simp only [Tr.leaves]
        rw [leavesL_set xs i x x' hx, hl, hsplit]
        have e1 : (leavesL (xs.take i) ++ (x.leaves ++ leavesL (xs.drop (i + 1)))).take (o1 + k) = leavesL (xs.take i) ++ x.leaves.take k := by
          rw [List.take_append, hlen, List.take_of_length_le (by omega), show o1 + k - o1 = k by omega, List.take_append_of_le_length (by omega)]
        have e2 : (leavesL (xs.take i) ++ (x.leaves ++ leavesL (xs.drop (i + 1)))).drop (o1 + k + u.size) = x.leaves.drop (k + u.size) ++ leavesL (xs.drop (i + 1)) := by
          rw [List.drop_append, hlen, List.drop_of_length_le (by omega), show o1 + k + u.size - o1 = k + u.size by omega, List.nil_append, List.drop_append_of_le_length (by omega)]
        rw [e1, e2]
        simp [List.append_assoc]
    · cases h
  | i :: p, .arr sz xs, acc, o, u, new, hw, h, hn, hs => by
    simp only [Tr.atF] at h
    split at h
    · rename_i x hx
      simp only [Tr.wf] at hw
      have hxw := wfL_get hw.2 hx
      obtain ⟨x', k, hset, hx'w, hx's, hk, hle, hl⟩ := set_leaves p x _ o u new hxw h hn hs
      have hi : i < xs.length := (List.getElem?_eq_some_iff.1 hx).1
      have hlen : (leavesL (xs.take i)).length = i * sz := by
        rw [leavesL_length _ (wfL_take hw.2 i), sum_size_const sz _ (fun y hy => hw.1 y (List.mem_of_mem_take hy))]
        simp [Nat.min_eq_left (Nat.le_of_lt hi), Nat.mul_comm]
      have hsplit := leavesL_split xs i x hx
      have hxl := leaves_length x hxw
      have htot : (leavesL xs).length = sz * xs.length := by
        have := leaves_length (.arr sz xs) (by simp only [Tr.wf]; exact hw)
        simpa [Tr.leaves, Tr.size] using this
      refine ⟨.arr sz (xs.set i x'), i * sz + k, ?_, ?_, by simp [Tr.size], by omega, ?_, ?_⟩
      · simp only [Tr.setF, hx, hset, Option.map_some]
      · simp only [Tr.wf]
        refine ⟨fun z hz => ?_, wfL_set hw.2 i hx'w⟩
        rcases List.mem_or_eq_of_mem_set hz with h' | rfl
        · exact hw.1 z h'
        · rw [hx's]; exact hw.1 x (List.mem_of_getElem? hx)
      · simp only [size_node, size_arr]
        rw [hsplit] at htot
        simp only [List.length_append] at htot
        omega
      · simp only [Tr.leaves]
        rw [leavesL_set xs i x x' hx, hl, hsplit]
        have e1 : (leavesL (xs.take i) ++ (x.leaves ++ leavesL (xs.drop (i + 1)))).take (i * sz + k) = leavesL (xs.take i) ++ x.leaves.take k := by
          rw [List.take_append, hlen, List.take_of_length_le (by omega), show i * sz + k - i * sz = k by omega, List.take_append_of_le_length (by omega)]
        have e2 : (leavesL (xs.take i) ++ (x.leaves ++ leavesL (xs.drop (i + 1)))).drop (i * sz + k + u.size) = x.leaves.drop (k + u.size) ++ leavesL (xs.drop (i + 1)) := by
          rw [List.drop_append, hlen, List.drop_of_length_le (by omega), show i * sz + k + u.size - i * sz = k + u.size by omega, List.nil_append, List.drop_append_of_le_length (by omega)]
        rw [e1, e2]
        simp [List.append_assoc]
    · cases h
  | _ :: _, .any, _, _, _, _, _, h, _, _ => by simp [Tr.atF] at h
  | _ :: _, .int .., _, _, _, _, _, h, _, _ => by simp [Tr.atF] at h
  | _ :: _, .bool .., _, _, _, _, _, h, _, _ => by simp [Tr.atF] at h
  | _ :: _, .str .., _, _, _, _, _, h, _, _ => by simp [Tr.atF] at h
  | _ :: _, .nilp, _, _, _, _, _, h, _, _ => by simp [Tr.atF] at h
  | _ :: _, .nils, _, _, _, _, _, h, _, _ => by simp [Tr.atF] at h
  | _ :: _, .nilf, _, _, _, _, _, h, _, _ => by simp [Tr.atF] at h
  | _ :: _, .ptr .., _, _, _, _, _, h, _, _ => by simp [Tr.atF] at h
  | _ :: _, .iptr .., _, _, _, _, _, h, _, _ => by simp [Tr.atF] at h
  | _ :: _, .own .., _, _, _, _, _, h, _, _ => by simp [Tr.atF] at h
  | _ :: _, .sl .., _, _, _, _, _, h, _, _ => by simp [Tr.atF] at h
  | _ :: _, .tup .., _, _, _, _, _, h, _, _ => by simp [Tr.atF] at h
  | _ :: _, .clo .., _, _, _, _, _, h, _, _ => by simp [Tr.atF] at h

end Go.Proofs.Ytnonimnhninafaa.Ab

/- What a tree says of a value in a memory; memories that grow. -/
namespace Go.Proofs.Ytnonimnhninafaa.Ab
open Go
set_option linter.unusedVariables false
set_option linter.unusedSimpArgs false

/-- What is known of an object of the call's own. -/
inductive AObj where
  | dead
  | cells (t : Tr)
  | row (e : TypeId) (sz : Nat) (xs : List Tr)
  deriving Inhabited

abbrev Heap := Nat → Nat × AObj

structure Mem where
  w : World
  Im : Nat → Prop
  β : Nat → Option (Nat × Nat)
  H : Heap

def OwnV (β : Option (Nat × Nat)) (sz lo len : Nat) (v : Value) : Prop :=
  match β with
  | none => v = .slice none 0 0 ∧ lo = 0 ∧ len = 0
  | some (b, K) => ∃ ad, v = .slice (some ad) len (K - lo) ∧ lo + len ≤ K ∧ (lo < K → ad = ⟨b, lo * sz, none⟩)

inductive VR (M : Mem) : Tr → Value → Prop
  | any (v : Value) : VR M .any v
  | int (k : IntKind) (n : Int) : VR M (.int k n) (.int k n)
  | bool (b : Bool) : VR M (.bool b) (.bool b)
  | str (s : ByteArray) : VR M (.str s) (.string s)
  | nilp : VR M .nilp (.pointer none)
  | nils : VR M .nils (.slice none 0 0)
  | nilf : VR M .nilf .nilFunc
  | ptr {d g : Nat} {p : List Nat} {off : Nat} {v : Value} (h1 : v.oneCell' = true) (hg : g ≤ (M.H d).1)
      (h : (M.H d).1 = g → ∃ b K, M.β d = some (b, K) ∧ v = .pointer (some ⟨b, off, none⟩)) : VR M (.ptr d g p off) v
  | iptr {x : Tr} {a : Addr} (vs : Nat → Value) (hs : a.spot = none) (hI : M.Im a.block) (hw : x.wf)
      (hc : ∀ i l, x.leaves[i]? = some l → M.w.cell? (a.add i) = some (vs i)) (hl : ∀ i l, x.leaves[i]? = some l → VR M l (vs i)) :
      VR M (.iptr x) (.pointer (some a))
  | own {d g lo len : Nat} {v : Value} (h1 : v.oneCell' = true) (hg : g ≤ (M.H d).1) (h : ∀ e sz xs, M.H d = (g, .row e sz xs) → OwnV (M.β d) sz lo len v) : VR M (.own d g lo len) v
  | sl {sz : Nat} {xs : List Tr} {a : Option Addr} {cap : Nat} (vs : Nat → Value) (hcap : xs.length ≤ cap) (hnil : a = none → cap = 0)
      (hw : ∀ x ∈ xs, x.wf ∧ x.size = sz) (hI : ∀ ad, a = some ad → 0 < xs.length → ad.spot = none ∧ M.Im ad.block)
      (hc : ∀ i l, (leavesL xs)[i]? = some l → ∃ ad, a = some ad ∧ M.w.cell? (ad.add i) = some (vs i)) (hl : ∀ i l, (leavesL xs)[i]? = some l → VR M l (vs i)) :
      VR M (.sl sz xs) (.slice a xs.length cap)
  | agg {t : Tr} {cs : Array Value} (ha : t.isAgg = true) (hw : t.wf) (hs : cs.size = t.size) (hl : ∀ i l, t.leaves[i]? = some l → VR M l (cs.getD i undef)) : VR M t (.agg cs)
  | tup {xs : List Tr} {vs : Array Value} (hs : vs.size = xs.length) (hl : ∀ i x, xs[i]? = some x → VR M x (vs.getD i undef)) : VR M (.tup xs) (.tuple vs)
  | clo {f : FuncId} {xs : List Tr} {vs : Array Value} (hs : vs.size = xs.length) (hl : ∀ i x, xs[i]? = some x → VR M x (vs.getD i undef)) : VR M (.clo f xs) (.func (.func f) #[] vs)

def ObjSame (o o' : AObj) : Prop := ∀ e sz xs', o' = .row e sz xs' → ∃ xs, o = .row e sz xs

structure Mono (M M' : Mem) : Prop where
  im : ∀ b, M.Im b → M'.Im b
  blk : ∀ b, M.Im b → M'.w.heap[b]? = M.w.heap[b]?
  gen : ∀ d, (M.H d).1 ≤ (M'.H d).1
  same : ∀ d, (M'.H d).1 = (M.H d).1 → M'.β d = M.β d ∧ ObjSame (M.H d).2 (M'.H d).2

theorem Mono.refl (M : Mem) : Mono M M := ⟨fun _ h => h, fun _ _ => rfl, fun _ => Nat.le_refl _, fun _ _ => ⟨rfl, fun _ _ xs h => ⟨xs, h⟩⟩⟩

theorem Mono.trans {M M' M'' : Mem} (h : Mono M M') (k : Mono M' M'') : Mono M M'' where
  im b hb := k.im b (h.im b hb)
  blk b hb := (k.blk b (h.im b hb)).trans (h.blk b hb)
  gen d := Nat.le_trans (h.gen d) (k.gen d)
  same d hd := by
    have h1 := h.gen d
    have h2 := k.gen d
    have e1 : (M'.H d).1 = (M.H d).1 := by omega
    have e2 : (M''.H d).1 = (M'.H d).1 := by omega
    obtain ⟨a1, a2⟩ := h.same d e1
    obtain ⟨b1, b2⟩ := k.same d e2
    refine ⟨b1.trans a1, fun e sz xs' hx => ?_⟩
    obtain ⟨ys, hy⟩ := b2 e sz xs' hx
    exact a2 e sz ys hy

theorem VR.mono {M M' : Mem} (h : Mono M M') {t : Tr} {v : Value} (hv : VR M t v) : VR M' t v := by
  induction hv with
  | any v => exact .any v
  | int k n => exact .int k n
  | bool b => exact .bool b
  | str s => exact .str s
  | nilp => exact .nilp
  | nils => exact .nils
  | nilf => exact .nilf
  | @ptr d g p off v h1 hg hp =>
    refine .ptr h1 (Nat.le_trans hg (h.gen d)) fun e => ?_
    have h1 := h.gen d
    have e1 : (M'.H d).1 = (M.H d).1 := by omega
    obtain ⟨b, K, hb, hv⟩ := hp (by omega)
    exact ⟨b, K, (h.same d e1).1.trans hb, hv⟩
  | @iptr x a vs hs hI hw hc hl ih =>
    refine .iptr vs hs (h.im _ hI) hw (fun i l hi => ?_) ih
    rw [World.cell?_of_block (w := M.w)]
    · exact hc i l hi
    · have : (a.add i).block = a.block := by unfold Addr.add; split <;> rfl
      rw [this]
      exact h.blk _ hI
  | @own d g lo len v h1 hg ho =>
    refine .own h1 (Nat.le_trans hg (h.gen d)) fun e sz xs hd => ?_
    have h1 := h.gen d
    have e1 : (M'.H d).1 = (M.H d).1 := by rw [hd] at h1 ⊢; simp at *; omega
    obtain ⟨hb, hs⟩ := h.same d e1
    obtain ⟨ys, hy⟩ := hs e sz xs (by rw [hd])
    have hd' : M.H d = (g, .row e sz ys) := by
      have : (M.H d).1 = g := by rw [← e1, hd]
      rw [← this, ← hy]
    rw [hb]
    exact ho e sz ys hd'
  | @sl sz xs a cap vs hcap hnil hw hI hc hl ih =>
    refine .sl vs hcap hnil hw (fun ad ha hp => ⟨(hI ad ha hp).1, h.im _ (hI ad ha hp).2⟩) (fun i l hi => ?_) ih
    obtain ⟨ad, ha, hcell⟩ := hc i l hi
    refine ⟨ad, ha, ?_⟩
    have hpos : 0 < xs.length := by
      rcases xs with _ | ⟨x, xs⟩
      · simp [leavesL] at hi
      · simp
    rw [World.cell?_of_block (w := M.w)]
    · exact hcell
    · have : (ad.add i).block = ad.block := by unfold Addr.add; split <;> rfl
      rw [this]
      exact h.blk _ (hI ad ha hpos).2
  | agg ha hw hs hl ih => exact .agg ha hw hs ih
  | tup hs hl ih => exact .tup hs ih
  | clo hs hl ih => exact .clo hs ih

/-- A leaf's value is one cell. -/
theorem VR.one {M : Mem} {t : Tr} {v : Value} (h : VR M t v) (hw : t.wf) (ha : t.isLeaf = true) : v.oneCell' = true := by
  cases h <;> first | rfl | assumption | exact absurd hw (by simp [Tr.wf]) | (cases t <;> simp_all [Tr.isAgg, Tr.isLeaf]) | (simp [Tr.isLeaf] at ha; done)

theorem VR.wf {M : Mem} {t : Tr} {v : Value} (h : VR M t v) (h1 : t ≠ .any) (h2 : ∀ xs, t ≠ .tup xs) : t.wf := by
  cases h <;> first | trivial | assumption | exact absurd rfl h1 | exact absurd rfl (h2 _) | skip
  rename_i sz xs a cap vs _ _ hw _ _ _
  simp only [Tr.wf]
  exact ⟨fun x hx => (hw x hx).2, (wfL_iff _).2 fun x hx => (hw x hx).1⟩

def Live (M : Mem) (d : Nat) : Prop := (M.H d).2 ≠ .dead

def ObjR (M : Mem) (d : Nat) : Prop :=
  match (M.H d).2 with
  | .dead => True
  | .cells t => t.wf ∧ ∃ b K c e, M.β d = some (b, K) ∧ M.w.heap[b]? = some (.cells c e (0, 0)) ∧ c.size = t.size ∧ ∀ i l, t.leaves[i]? = some l → VR M l (c.getD i undef)
  | .row e sz xs => 0 < sz ∧ (∀ x ∈ xs, x.wf ∧ x.size = sz) ∧
    match M.β d with
    | none => xs = []
    | some (b, K) => ∃ c, M.w.heap[b]? = some (.cells c e (0, 0)) ∧ c.size = K * sz ∧ xs.length ≤ K ∧ K ≤ maxLen ∧ ∀ i l, (leavesL xs)[i]? = some l → VR M l (c.getD i undef)

structure MemOK (M : Mem) : Prop where
  objs : ∀ d, ObjR M d
  inj : ∀ d d' b K K', d ≠ d' → Live M d → Live M d' → M.β d = some (b, K) → M.β d' = some (b, K') → False
  sep : ∀ d b K, Live M d → M.β d = some (b, K) → ¬ M.Im b
  lt : ∀ b, M.Im b → b < M.w.heap.size

/-- The frame of a call: the world in which it began, the blocks that it was lent, what never changes. -/
structure Base where
  w0 : World
  L0 : Nat → Prop
  Im0 : Nat → Prop

structure Fr (Φ : Base) (M : Mem) : Prop where
  os : M.w.os = Φ.w0.os
  tape : M.w.tape = Φ.w0.tape
  output : M.w.output = Φ.w0.output
  size : Φ.w0.heap.size ≤ M.w.heap.size
  blk : ∀ b, b < Φ.w0.heap.size → ¬ Φ.L0 b → M.w.heap[b]? = Φ.w0.heap[b]?
  own : ∀ d b K, Live M d → M.β d = some (b, K) → Φ.w0.heap.size ≤ b ∨ Φ.L0 b
  im0 : ∀ b, Φ.Im0 b → M.Im b
  im1 : ∀ b, M.Im b → Φ.Im0 b ∨ Φ.w0.heap.size ≤ b ∨ Φ.L0 b

def upd {α : Type} (f : Nat → α) (a : Nat) (x : α) : Nat → α := fun b => if b = a then x else f b
theorem upd_apply {α : Type} (f : Nat → α) (a : Nat) (x : α) (b : Nat) : upd f a x b = if b = a then x else f b := rfl
@[simp] theorem upd_same {α : Type} (f : Nat → α) (a : Nat) (x : α) : upd f a x a = x := by simp [upd]
theorem upd_ne {α : Type} (f : Nat → α) (a : Nat) (x : α) (b : Nat) (h : b ≠ a) : upd f a x b = f b := by simp [upd, h]

theorem ObjR.lt {M : Mem} {d b K : Nat} (h : ObjR M d) (hl : Live M d) (hb : M.β d = some (b, K)) : b < M.w.heap.size := by
  unfold ObjR at h
  unfold Live at hl
  split at h
  · rename_i e; exact absurd e hl
  · obtain ⟨_, b', K', c, e, hb', hc, _⟩ := h
    rw [hb] at hb'
    simp only [Option.some.injEq, Prod.mk.injEq] at hb'
    rw [hb'.1]
    exact (Array.getElem?_eq_some_iff.1 hc).1
  · rw [hb] at h
    obtain ⟨_, _, c, hc, _⟩ := h
    exact (Array.getElem?_eq_some_iff.1 hc).1

/-- An object stays known when the memory grows and its block is as it was. -/
theorem ObjR.mono {M M' : Mem} (hm : Mono M M') {d : Nat} (h : ObjR M d) (hH : M'.H d = M.H d)
    (hblk : ∀ b K, M.β d = some (b, K) → Live M d → M'.w.heap[b]? = M.w.heap[b]?) : ObjR M' d := by
  have hβ : M'.β d = M.β d := (hm.same d (by rw [hH])).1
  by_cases hl : Live M d
  · unfold ObjR at h ⊢
    rw [hH]
    split
    · trivial
    · rename_i t e
      rw [e] at h
      obtain ⟨hw, b, K, c, e', hb, hc, hs, hv⟩ := h
      exact ⟨hw, b, K, c, e', hβ.trans hb, (hblk b K hb hl).trans hc, hs, fun i l hi => (hv i l hi).mono hm⟩
    · rename_i e' sz xs e
      rw [e] at h
      obtain ⟨h0, hw, h2⟩ := h
      refine ⟨h0, hw, ?_⟩
      rw [hβ]
      cases hb : M.β d with
      | none => rw [hb] at h2; exact h2
      | some bK =>
        obtain ⟨b, K⟩ := bK
        rw [hb] at h2
        obtain ⟨c, hc, hs, hle, hK, hv⟩ := h2
        exact ⟨c, (hblk b K hb hl).trans hc, hs, hle, hK, fun i l hi => (hv i l hi).mono hm⟩
  · unfold Live at hl
    unfold ObjR
    rw [hH]
    simp only [ne_eq, Classical.not_not] at hl
    rw [hl]
    trivial

/-- A new block for a label. -/
def Mem.allocAt (M : Mem) (d K : Nat) (o : AObj) (c : Array Value) (e : TypeId) : Mem :=
  { w := M.w.alloc (.cells c e), Im := M.Im, β := upd M.β d (some (M.w.heap.size, K)), H := upd M.H d ((M.H d).1 + 1, o) }

theorem heap_alloc_im {M : Mem} (ok : MemOK M) (o : Obj) (b : Nat) (h : M.Im b) : (M.w.alloc o).heap[b]? = M.w.heap[b]? :=
  heap_alloc_old _ _ _ (ok.lt b h)

theorem Mem.allocAt_mono {M : Mem} (ok : MemOK M) (d K : Nat) (o : AObj) (c : Array Value) (e : TypeId) : Mono M (M.allocAt d K o c e) where
  im _ h := h
  blk b h := heap_alloc_im ok _ b h
  gen d' := by
    simp only [Mem.allocAt, upd]
    split
    · rename_i h; subst h; simp
    · exact Nat.le_refl _
  same d' h := by
    simp only [Mem.allocAt, upd] at h ⊢
    by_cases hd : d' = d
    · subst hd; simp at h
    · simp only [hd, if_false]
      exact ⟨trivial, fun _ _ xs hx => ⟨xs, hx⟩⟩

theorem Mem.allocAt_ok {M : Mem} (ok : MemOK M) (d K : Nat) (o : AObj) (c : Array Value) (e : TypeId)
    (ho : ObjR (M.allocAt d K o c e) d) : MemOK (M.allocAt d K o c e) where
  objs d' := by
    by_cases hd : d' = d
    · subst hd; exact ho
    · refine (ok.objs d').mono (Mem.allocAt_mono ok d K o c e) ?_ ?_
      · simp [Mem.allocAt, upd, hd]
      · intro b K' hb hl
        exact heap_alloc_old _ _ _ ((ok.objs d').lt hl hb)
  inj d1 d2 b K1 K2 hne h1 h2 e1 e2 := by
    simp only [Mem.allocAt, Live, upd] at h1 h2 e1 e2
    by_cases hd1 : d1 = d
    · have hd2 : d2 ≠ d := fun e => hne (hd1.trans e.symm)
      simp only [hd1, if_true, Option.some.injEq, Prod.mk.injEq] at e1
      simp only [hd2, if_false] at h2 e2
      have := (ok.objs d2).lt h2 e2
      omega
    · by_cases hd2 : d2 = d
      · simp only [hd2, if_true, Option.some.injEq, Prod.mk.injEq] at e2
        simp only [hd1, if_false] at h1 e1
        have := (ok.objs d1).lt h1 e1
        omega
      · simp only [hd1, hd2, if_false] at h1 h2 e1 e2
        exact ok.inj d1 d2 b K1 K2 hne h1 h2 e1 e2
  sep d' b K' hl hb := by
    simp only [Mem.allocAt, Live, upd] at hl hb ⊢
    by_cases hd : d' = d
    · simp only [hd, if_true, Option.some.injEq, Prod.mk.injEq] at hb
      intro hI
      have := ok.lt b hI
      omega
    · simp only [hd, if_false] at hl hb
      exact ok.sep d' b K' hl hb
  lt b h := by
    have := ok.lt b h
    simp only [Mem.allocAt, World.size_alloc]; omega

theorem Fr.allocAt {Φ : Base} {M : Mem} (h : Fr Φ M) (d K : Nat) (o : AObj) (c : Array Value) (e : TypeId) : Fr Φ (M.allocAt d K o c e) where
  os := h.os
  tape := h.tape
  output := h.output
  size := by have := h.size; simp only [Mem.allocAt, World.size_alloc]; omega
  blk b hb hL := by
    have := h.size
    exact (heap_alloc_old _ _ _ (by omega)).trans (h.blk b hb hL)
  own d' b K' hl hb := by
    simp only [Mem.allocAt, Live, upd] at hl hb
    by_cases hd : d' = d
    · simp only [hd, if_true, Option.some.injEq, Prod.mk.injEq] at hb
      have := h.size
      omega
    · simp only [hd, if_false] at hl hb
      exact h.own d' b K' hl hb
  im0 := h.im0
  im1 := h.im1

/-- A block of the call's own is written: label d, the same generation. -/
def Mem.writeAt (M : Mem) (d b : Nat) (o : AObj) (c : Array Value) : Mem :=
  { w := M.w.setRow b c, Im := M.Im, β := M.β, H := upd M.H d ((M.H d).1, o) }

theorem Mem.writeAt_mono {M : Mem} (ok : MemOK M) (d b K : Nat) (o : AObj) (c : Array Value) (hl : Live M d) (hb : M.β d = some (b, K)) (hs : ObjSame (M.H d).2 o) :
    Mono M (M.writeAt d b o c) where
  im _ h := h
  blk b' h := setRow_other _ _ _ _ (fun e => ok.sep d b K hl hb (e ▸ h))
  gen d' := by
    simp only [Mem.writeAt, upd]
    split
    · rename_i h; subst h; exact Nat.le_refl _
    · exact Nat.le_refl _
  same d' h := by
    simp only [Mem.writeAt, upd] at h ⊢
    by_cases hd : d' = d
    · subst hd; simpa using hs
    · simp only [hd, if_false]
      exact ⟨trivial, fun _ _ xs hx => ⟨xs, hx⟩⟩

theorem Mem.writeAt_ok {M : Mem} (ok : MemOK M) (d b K : Nat) (o : AObj) (c : Array Value) (hl : Live M d) (hb : M.β d = some (b, K)) (hs : ObjSame (M.H d).2 o)
    (ho : ObjR (M.writeAt d b o c) d) : MemOK (M.writeAt d b o c) where
  objs d' := by
    by_cases hd : d' = d
    · subst hd; exact ho
    · refine (ok.objs d').mono (Mem.writeAt_mono ok d b K o c hl hb hs) ?_ ?_
      · simp [Mem.writeAt, upd, hd]
      · intro b' K' hb' hl'
        refine setRow_other _ _ _ _ (fun e => ?_)
        subst e
        exact ok.inj d' d b' K' K hd hl' hl hb' hb
  inj d1 d2 b' K1 K2 hne h1 h2 e1 e2 := by
    refine ok.inj d1 d2 b' K1 K2 hne ?_ ?_ e1 e2
    · by_cases hd1 : d1 = d
      · rw [hd1]; exact hl
      · simpa [Mem.writeAt, Live, upd, hd1] using h1
    · by_cases hd2 : d2 = d
      · rw [hd2]; exact hl
      · simpa [Mem.writeAt, Live, upd, hd2] using h2
  sep d' b' K' hl' hb' := by
    refine ok.sep d' b' K' ?_ hb'
    by_cases hd : d' = d
    · rw [hd]; exact hl
    · simpa [Mem.writeAt, Live, upd, hd] using hl'
  lt b' h := by
    have := ok.lt b' h
    simp only [Mem.writeAt, size_setRow]; omega

theorem Fr.writeAt {Φ : Base} {M : Mem} (h : Fr Φ M) (d b K : Nat) (o : AObj) (c : Array Value) (hl : Live M d) (hb : M.β d = some (b, K)) : Fr Φ (M.writeAt d b o c) where
  os := h.os
  tape := h.tape
  output := h.output
  size := by have := h.size; simp only [Mem.writeAt, size_setRow]; omega
  blk b' hb' hL := by
    refine (setRow_other _ _ _ _ (fun e => ?_)).trans (h.blk b' hb' hL)
    subst e
    rcases h.own d b' K hl hb with h' | h'
    · omega
    · exact hL h'
  own d' b' K' hl' hb' := by
    refine h.own d' b' K' ?_ hb'
    by_cases hd : d' = d
    · rw [hd]; exact hl
    · simpa [Mem.writeAt, Live, upd, hd] using hl'
  im0 := h.im0
  im1 := h.im1

/-- The world draws; nothing else turns. -/
def Mem.drew (M : Mem) : Mem := { M with w := M.w.drew }
theorem Mem.drew_mono (M : Mem) : Mono M M.drew := ⟨fun _ h => h, fun _ _ => rfl, fun _ => Nat.le_refl _, fun _ _ => ⟨rfl, fun _ _ xs h => ⟨xs, h⟩⟩⟩
theorem Mem.drew_ok {M : Mem} (ok : MemOK M) : MemOK M.drew where
  objs d := (ok.objs d).mono M.drew_mono rfl (fun _ _ _ _ => rfl)
  inj := ok.inj
  sep := ok.sep
  lt := ok.lt
theorem Fr.drew {Φ : Base} {M : Mem} (h : Fr Φ M) : Fr Φ M.drew := ⟨h.os, h.tape, h.output, h.size, h.blk, h.own, h.im0, h.im1⟩

end Go.Proofs.Ytnonimnhninafaa.Ab

/- The operations on trees: what each yields, as plain functions. -/
namespace Go.Proofs.Ytnonimnhninafaa.Ab
open Go
set_option linter.unusedVariables false
set_option linter.unusedSimpArgs false

inductive TyK where
  | bool
  | int (k : IntKind)
  | str
  | ptr (e : TypeId)
  | slice (e : TypeId)
  | array (n : Nat) (e : TypeId)
  | struct (offs : List Nat) (tys : List TypeId)
  | func
  | tuple
  | other
  deriving Inhabited

structure TyI where
  kind : TyK
  size : Nat
  bytes : Nat
  zero : Tr
  deriving Inhabited

def TyK.isAgg : TyK → Bool
  | .array _ _ => true
  | .struct _ _ => true
  | _ => false

abbrev Tab := TypeId → Option TyI

def Tr.constVal : Tr → Value
  | .int k n => .int k n
  | .bool b => .bool b
  | .str s => .string s
  | .nilp => .pointer none
  | .nils => .slice none 0 0
  | .nilf => .nilFunc
  | _ => undef

def Tr.isConst : Tr → Bool
  | .int _ _ => true
  | .bool _ => true
  | .str _ => true
  | .nilp => true
  | .nils => true
  | .nilf => true
  | _ => false

/-- May a tree lie in a cell, or in an aggregate's part? -/
def Tr.good : Tr → Bool
  | .any => false
  | .tup _ => false
  | _ => true

structure TyOK (P : Program) (t : TypeId) (i : TyI) : Prop where
  info : ∃ inf, P.info? t = some inf ∧ inf.size = i.size ∧ inf.bytes = i.bytes ∧
    (i.zero.good = true → i.zero.wf ∧ i.zero.size = i.size ∧ i.zero.isAgg = i.kind.isAgg ∧ (∀ l ∈ i.zero.leaves, l.isConst = true) ∧ ∃ z, inf.zero = some z ∧ z.cells.toList = i.zero.leaves.map Tr.constVal)
  und : match i.kind with
    | .bool => P.underlying t = some .bool
    | .int k => P.underlying t = some (.int k)
    | .str => P.underlying t = some .string
    | .ptr e => P.underlying t = some (.pointer e)
    | .slice e => P.underlying t = some (.slice e)
    | .array n e => P.underlying t = some (.array n e) ∧ P.eqGuardType P.depth t = false
    | .struct offs tys => ∃ fs, P.underlying t = some (.struct fs) ∧ fs.toList.map (·.offset) = offs ∧ fs.toList.map (·.type) = tys ∧
        P.stoodInHeld t = false ∧ (∀ f ∈ fs.toList, f.name ≠ "_") ∧ P.eqGuardType P.depth t = false
    | .func => ∃ a b c, P.underlying t = some (.func a b c)
    | .tuple => ∃ a, P.underlying t = some (.tuple a)
    | .other => ∃ d, P.underlying t = some d ∧ d.isRow = false

def TabOK (P : Program) (Θ : Tab) : Prop := ∀ t i, Θ t = some i → TyOK P t i

def ofConst : Value → Tr
  | .int k n => .int k n
  | .bool b => .bool b
  | .string s => .str s
  | .pointer a => if a.isNone = true then .nilp else .any
  | .slice a l c => if a.isNone = true ∧ l = 0 ∧ c = 0 then .nils else .any
  | .nilFunc => .nilf
  | .func (.func f) first caps => if first.size = 0 ∧ caps.size = 0 then .clo f [] else .any
  | _ => .any

def rdOp (T : Nat → Tr) : Operand → Tr
  | .tmp t => T t
  | .const v => ofConst v
  | .global _ => .any
  | .func f => .clo f []

/-- What an operation yields, and the object that it makes or turns. -/
structure Eff where
  val : Tr
  hu : Option (Nat × Nat × AObj) := none

def Eff.heap (f : Eff) (H : Heap) : Heap :=
  match f.hu with
  | none => H
  | some (d, x) => upd H d x

def bitOf (op : BinOp) (k : IntKind) (x y : Int) : Int :=
  match op with
  | .and => k.wrap ((BitVec.ofInt k.bits x &&& BitVec.ofInt k.bits y).toNat)
  | .or => k.wrap ((BitVec.ofInt k.bits x ||| BitVec.ofInt k.bits y).toNat)
  | .xor => k.wrap ((BitVec.ofInt k.bits x ^^^ BitVec.ofInt k.bits y).toNat)
  | _ => k.wrap ((BitVec.ofInt k.bits x &&& ~~~ BitVec.ofInt k.bits y).toNat)

def aInt (op : BinOp) (k : IntKind) (x y : Int) : Option Tr :=
  match op with
  | .add => some (.int k (k.wrap (x + y)))
  | .sub => some (.int k (k.wrap (x - y)))
  | .mul => some (.int k (k.wrap (x * y)))
  | .quo => if y = 0 then none else some (.int k (k.wrap (x.tdiv y)))
  | .rem => if y = 0 then none else some (.int k (x.tmod y))
  | .and => some (.int k (bitOf .and k x y))
  | .or => some (.int k (bitOf .or k x y))
  | .xor => some (.int k (bitOf .xor k x y))
  | .andNot => some (.int k (bitOf .andNot k x y))
  | .eql => some (.bool (x == y))
  | .neq => some (.bool (x != y))
  | .lss => some (.bool (decide (x < y)))
  | .leq => some (.bool (decide (x ≤ y)))
  | .gtr => some (.bool (decide (x > y)))
  | .geq => some (.bool (decide (x ≥ y)))
  | .shl => none
  | .shr => none

def aShift (op : BinOp) (k : IntKind) (x y : Int) : Option Tr :=
  if y < 0 then none else
    match op with
    | .shl => some (.int k (k.wrap (x * 2 ^ (min y.toNat k.bits))))
    | .shr => some (.int k (x.fdiv (2 ^ (min y.toNat k.bits))))
    | _ => none

def aStr (op : BinOp) (x y : ByteArray) : Option Tr :=
  match op with
  | .add => if ((x.size + y.size : Nat) : Int) > IntKind.i64.max then none else some (.str (x ++ y))
  | .eql => some (.bool (x.toList == y.toList))
  | .neq => some (.bool (!(x.toList == y.toList)))
  | .lss => some (.bool (Op.bytesLess x.toList y.toList))
  | .leq => some (.bool (Op.bytesLess x.toList y.toList || x.toList == y.toList))
  | .gtr => some (.bool (!(Op.bytesLess x.toList y.toList || x.toList == y.toList)))
  | .geq => some (.bool (!(Op.bytesLess x.toList y.toList)))
  | _ => none

/-- '==' of two trees of a type, by the type's shape. -/
def eqT (Θ : Tab) : Nat → TypeId → Tr → Tr → Option Bool
  | 0, _, _, _ => none
  | n + 1, t, x, y =>
    match Θ t with
    | none => none
    | some i =>
      match i.kind, x, y with
      | .bool, .bool a, .bool b => some (a == b)
      | .int _, .int k a, .int k' b => if k = k' then some (a == b) else none
      | .str, .str a, .str b => some (a == b)
      | .struct offs tys, .node _ ox xs, .node _ oy ys => if ox = offs ∧ oy = offs then eqL n tys xs ys else none
      | .array m e, .arr sx xs, .arr sy ys =>
        match Θ e with
        | some ie => if sx = ie.size ∧ sy = ie.size ∧ xs.length = m ∧ ys.length = m then eqL n (List.replicate m e) xs ys else none
        | none => none
      | _, _, _ => none
where
  eqL (n : Nat) : List TypeId → List Tr → List Tr → Option Bool
    | [], [], [] => some true
    | t :: ts, x :: xs, y :: ys =>
      match Θ t, eqT Θ n t x y with
      | some i, some b => if x.size = i.size ∧ y.size = i.size then
          match eqL n ts xs ys with
          | some r => some (b && r)
          | none => none
        else none
      | _, _ => none
    | _, _, _ => none

/-- How deep types are looked into. -/
def eqDepth : Nat := 20

def aEq (Θ : Tab) (t : TypeId) (x y : Tr) : Option Bool :=
  match x, y with
  | .bool a, .bool b => match Θ t with
    | some i => match i.kind with
      | .bool => some (a == b)
      | _ => none
    | none => none
  | .nils, .nils => match Θ t with
    | some i => match i.kind with
      | .slice _ => some true
      | _ => none
    | none => none
  | .own _ _ _ 0, .nils => none
  | .own d g lo (len + 1), .nils => none
  | .node _ _ _, .node _ _ _ => eqT Θ eqDepth t x y
  | .arr _ _, .arr _ _ => eqT Θ eqDepth t x y
  | _, _ => none

def aBin (Θ : Tab) (op : BinOp) (t : TypeId) (x y : Tr) : Option Tr :=
  match op, x, y with
  | .shl, .int k a, .int _ b => aShift .shl k a b
  | .shr, .int k a, .int _ b => aShift .shr k a b
  | op, .int k a, .int k' b => if k = k' then aInt op k a b else none
  | op, .str a, .str b => aStr op a b
  | .eql, x, y => (aEq Θ t x y).map Tr.bool
  | .neq, x, y => (aEq Θ t x y).map fun b => Tr.bool (!b)
  | _, _, _ => none

def aUn (op : UnOp) (x : Tr) : Option Tr :=
  match op, x with
  | .not, .bool b => some (.bool (!b))
  | .neg, .int k n => some (.int k (k.wrap (0 - n)))
  | .xor, .int k n => some (.int k (bitOf .xor k (if k.signed then -1 else k.max) n))
  | _, _ => none

def aConv (Θ : Tab) (src dst : TypeId) (x : Tr) : Option Tr :=
  match Θ dst, x with
  | some i, .int _ n => match i.kind with
    | .int k => some (.int k (k.wrap n))
    | _ => none
  | some i, .str s => match i.kind with
    | .str => some (.str s)
    | _ => none
  | _, _ => none

def setParts (place : Nat → Option (Nat × Nat)) : List (Nat × Tr) → Tr → Option Tr
  | [], t => some t
  | (i, x) :: ps, t =>
    match place i, Tr.atF 0 [i] t with
    | some (off, size), some (o, u) => if x.size = size ∧ u.size = size ∧ o = off ∧ x.good = true then match Tr.setF [i] x t with
        | some t' => setParts place ps t'
        | none => none
      else none
    | _, _ => none

def sizesOf (Θ : Tab) : List TypeId → Option (List Nat)
  | [] => some []
  | t :: ts => match Θ t, sizesOf Θ ts with
    | some i, some l => some (i.size :: l)
    | _, _ => none

def placeOf (offs szs : List Nat) (j : Nat) : Option (Nat × Nat) :=
  match offs[j]?, szs[j]? with
  | some o, some s => some (o, s)
  | _, _ => none

def aBuild (Θ : Tab) (i : TyI) (ps : List (Nat × Tr)) : Option Tr :=
  match i.kind with
  | .struct offs tys => match sizesOf Θ tys with
    | some szs => setParts (placeOf offs szs) ps i.zero
    | none => none
  | .array _ e => match Θ e with
    | some ei => setParts (fun j => some (j * ei.size, ei.size)) ps i.zero
    | none => none
  | _ => none

def setElems (sz : Nat) : List (Nat × Tr) → List Tr → Option (List Tr)
  | [], xs => some xs
  | (i, x) :: ps, xs => if i < xs.length ∧ x.size = sz ∧ x.good = true then setElems sz ps (xs.set i x) else none

/-- What lies at an address of the call's own memory, or of memory that never changes. -/
def aAt (H : Heap) (x : Tr) : Option Tr :=
  match x with
  | .iptr y => some y
  | .ptr d g p off =>
    if (H d).1 = g then
      match (H d).2, p with
      | .cells t, p => match Tr.atF 0 p t with
        | some (o, u) => if o = off then some u else none
        | none => none
      | .row _ sz xs, i :: p => match xs[i]? with
        | some y => match Tr.atF (i * sz) p y with
          | some (o, u) => if o = off then some u else none
          | none => none
        | none => none
      | _, _ => none
    else none
  | _ => none

def aPut (H : Heap) (x new : Tr) : Option (Nat × Nat × AObj) :=
  match x with
  | .ptr d g p _ =>
    match (H d).2, p with
    | .cells t, p => (Tr.setF p new t).map fun t' => (d, g, .cells t')
    | .row e sz xs, i :: p => match xs[i]? with
      | some y => (Tr.setF p new y).map fun y' => (d, g, .row e sz (xs.set i y'))
      | none => none
    | _, _ => none
  | _ => none

def aLoad (Θ : Tab) (H : Heap) (t : TypeId) (x : Tr) : Option Tr :=
  match Θ t, aAt H x with
  | some i, some u => if u.size = i.size ∧ u.isAgg = i.kind.isAgg ∧ u.good = true then some u else none
  | _, _ => none

def aStore (Θ : Tab) (H : Heap) (t : TypeId) (x new : Tr) : Option Eff :=
  match Θ t, aAt H x with
  | some i, some u => if u.size = i.size ∧ new.size = i.size ∧ new.good = true then
      match aPut H x new with
      | some h => some ⟨.any, some h⟩
      | none => none
    else none
  | _, _ => none

def aFieldAddr (Θ : Tab) (H : Heap) (t : TypeId) (x : Tr) (f : Nat) : Option Tr :=
  match Θ t with
  | some i => match i.kind with
    | .struct offs tys => match offs[f]?, tys[f]? with
      | some o, some tf => match Θ tf with
        | some ti => if ti.size = 0 then none else
          match x with
          | .ptr d g p off => if (H d).1 = g then some (.ptr d g (p ++ [f]) (off + o)) else none
          | .iptr (.node _ os xs) => if os = offs then (xs[f]?).map Tr.iptr else none
          | _ => none
        | none => none
      | _, _ => none
    | _ => none
  | none => none

def aField (Θ : Tab) (t : TypeId) (x : Tr) (f : Nat) : Option Tr :=
  match Θ t with
  | some i => match i.kind, x with
    | .struct offs tys, .node _ os xs => match tys[f]?, xs[f]? with
      | some tf, some y => match Θ tf with
        | some ti => if os = offs ∧ y.size = ti.size ∧ y.isAgg = ti.kind.isAgg ∧ y.good = true then some y else none
        | none => none
      | _, _ => none
    | _, _ => none
  | none => none

def aIndexAddr (Θ : Tab) (H : Heap) (t : TypeId) (x i : Tr) : Option Tr :=
  match Θ t, i with
  | some ti, .int _ n => match ti.kind with
    | .slice e => match Θ e with
      | some ei => match x with
        | .sl sz xs => if sz = ei.size ∧ 0 ≤ n then (xs[n.toNat]?).map Tr.iptr else none
        | .own d g lo len => match H d with
          | (g', .row _ sz xs) => if g' = g ∧ sz = ei.size ∧ 0 ≤ n ∧ n < len ∧ lo + len ≤ xs.length then some (.ptr d g [lo + n.toNat] ((lo + n.toNat) * sz)) else none
          | _ => none
        | _ => none
      | none => none
    | .array m e => match Θ e with
      | some ei => match x with
        | .ptr d g p off => if (H d).1 = g ∧ 0 ≤ n ∧ n < m then some (.ptr d g (p ++ [n.toNat]) (off + n.toNat * ei.size)) else none
        | .iptr (.arr sz xs) => if sz = ei.size ∧ 0 ≤ n ∧ n < m then (xs[n.toNat]?).map Tr.iptr else none
        | _ => none
      | none => none
    | _ => none
  | _, _ => none

def aIndex (Θ : Tab) (t : TypeId) (x i : Tr) : Option Tr :=
  match Θ t, x, i with
  | some ti, .str s, .int _ n => match ti.kind with
    | .str => if 0 ≤ n then (s[n.toNat]?).map fun b => .int .u8 b.toNat else none
    | _ => none
  | some ti, .arr sz xs, .int _ n => match ti.kind with
    | .array m e => match Θ e, xs[n.toNat]? with
      | some ei, some y => if sz = ei.size ∧ 0 ≤ n ∧ n < m ∧ y.isAgg = ei.kind.isAgg ∧ y.good = true then some y else none
      | _, _ => none
    | _ => none
  | _, _, _ => none

/-- A bound of a cut: a number, or what stands for none. -/
def aBound (x : Option Tr) (dflt : Int) : Option Int :=
  match x with
  | none => some dflt
  | some (.int _ n) => some n
  | _ => none

def aSlice (Θ : Tab) (H : Heap) (t : TypeId) (x : Tr) (lo hi : Option Tr) : Option Tr :=
  match Θ t with
  | some ti => match ti.kind, x with
    | .str, .str s => match aBound lo 0, aBound hi s.size with
      | some l, some h => if 0 ≤ l ∧ l ≤ h ∧ h ≤ s.size then some (.str (s.extract l.toNat h.toNat)) else none
      | _, _ => none
    | .slice e, .sl sz xs => match Θ e, aBound lo 0, aBound hi xs.length with
      | some ei, some l, some h => if sz = ei.size ∧ 0 ≤ l ∧ l ≤ h ∧ h ≤ xs.length then some (.sl sz ((xs.take h.toNat).drop l.toNat)) else none
      | _, _, _ => none
    | .slice e, .own d g lo0 len => match Θ e, H d, aBound lo 0, aBound hi len with
      | some ei, (g', .row _ sz xs), some l, some h =>
        if g' = g ∧ sz = ei.size ∧ 0 ≤ l ∧ l ≤ h ∧ h ≤ len then some (.own d g (lo0 + l.toNat) (h.toNat - l.toNat)) else none
      | _, _, _, _ => none
    | .slice e, .nils => match Θ e, aBound lo 0, aBound hi 0 with
      | some _, some 0, some 0 => some .nils
      | _, _, _ => none
    | _, _ => none
  | none => none

def aLen (Θ : Tab) (H : Heap) (t : TypeId) (x : Tr) : Option Tr :=
  match Θ t with
  | some ti => match ti.kind, x with
    | .str, .str s => some (.int .i64 s.size)
    | .slice _, .sl _ xs => some (.int .i64 xs.length)
    | .slice _, .own d g _ n => match H d with
      | (g', .row _ _ _) => if g' = g then some (.int .i64 n) else none
      | _ => none
    | .slice _, .nils => some (.int .i64 0)
    | .array n _, _ => some (.int .i64 n)
    | .ptr a, _ => match Θ a with
      | some ai => match ai.kind with
        | .array n _ => some (.int .i64 n)
        | _ => none
      | none => none
    | _, _ => none
  | none => none

/-- The elements that a slice shows. -/
def aElems (H : Heap) (sz : Nat) (x : Tr) : Option (List Tr) :=
  match x with
  | .nils => some []
  | .sl s xs => if s = sz then some xs else none
  | .own d g lo len => match H d with
    | (g', .row _ s xs) => if g' = g ∧ s = sz ∧ lo + len ≤ xs.length then some ((xs.drop lo).take len) else none
    | _ => none
  | _ => none

def aAppend (Θ : Tab) (H : Heap) (L : Nat) (t u : TypeId) (x y : Tr) : Option Eff :=
  if t = u then
    match Θ t with
    | some ti => match ti.kind with
      | .slice e => match Θ e with
        | some ei => match aElems H ei.size y with
          | some ys => if ei.zero.good = true ∧ 0 < ei.size then
              match x with
              | .nils => if ys.length * ei.bytes ≤ 140737488355328 ∧ ys.length ≤ maxLen then
                  some ⟨.own L ((H L).1 + 1) 0 ys.length, some (L, (H L).1 + 1, .row e ei.size ys)⟩ else none
              | .own d g 0 n => match H d with
                | (g', .row e' s xs) => if g' = g ∧ e' = e ∧ s = ei.size ∧ xs.length = n ∧ (n + ys.length) * ei.bytes ≤ 140737488355328 ∧ n + ys.length ≤ maxLen then
                    some ⟨.own d (g + 1) 0 (n + ys.length), some (d, g + 1, .row e s (xs ++ ys))⟩ else none
                | _ => none
              | _ => none
            else none
          | none => none
        | none => none
      | _ => none
    | none => none
  else none

def aCopy (Θ : Tab) (H : Heap) (t : TypeId) (x y : Tr) : Option Eff :=
  match Θ t with
  | some ti => match ti.kind with
    | .slice e => match Θ e, x with
      | some ei, .own d g lo len => match H d, aElems H ei.size y with
        | (g', .row e' s xs), some ys => if g' = g ∧ s = ei.size ∧ lo + len ≤ xs.length then
            some ⟨.int .i64 (min ys.length len : Nat), some (d, g, .row e' s (splice xs lo (ys.take len)))⟩ else none
        | _, _ => none
      | _, _ => none
    | _ => none
  | none => none

def aMin (x y : Tr) : Option Tr :=
  match x, y with
  | .int k a, .int k' b => if k = k' then some (.int k (if b < a then b else a)) else none
  | _, _ => none
def aMax (x y : Tr) : Option Tr :=
  match x, y with
  | .int k a, .int k' b => if k = k' then some (.int k (if b > a then b else a)) else none
  | _, _ => none

def aBuiltin (Θ : Tab) (H : Heap) (L : Nat) (b : Builtin) (tys : List TypeId) (args : List Tr) : Option Eff :=
  match b, tys, args with
  | .len, [t], [x] => (aLen Θ H t x).map fun v => ⟨v, none⟩
  | .append, [t, u], [x, y] => aAppend Θ H L t u x y
  | .copy, [t, _], [x, y] => aCopy Θ H t x y
  | .min, _, [x, y] => (aMin x y).map fun v => ⟨v, none⟩
  | .max, _, [x, y] => (aMax x y).map fun v => ⟨v, none⟩
  | _, _, _ => none

def aMakeSlice (Θ : Tab) (H : Heap) (L : Nat) (t : TypeId) (x y : Tr) : Option Eff :=
  match Θ t, x, y with
  | some ti, .int _ n, .int _ m => match ti.kind with
    | .slice e => match Θ e with
      | some ei => if ei.zero.good = true ∧ 0 < ei.size ∧ 0 ≤ n ∧ n = m ∧ ei.bytes * n ≤ 281474976710656 ∧ n ≤ 9223372036854775807 then
          some ⟨.own L ((H L).1 + 1) 0 n.toNat, some (L, (H L).1 + 1, .row e ei.size (List.replicate n.toNat ei.zero))⟩ else none
      | none => none
    | _ => none
  | _, _, _ => none

/-- What an operation that calls no function yields. -/
def aOp0 (Θ : Tab) (H : Heap) (L : Nat) (rd : Operand → Tr) (o : Op) : Option Eff :=
  match o with
  | .move x => some ⟨rd x, none⟩
  | .assign x => some ⟨rd x, none⟩
  | .pick c a b => match rd c with
    | .bool c => some ⟨if c = true then rd a else rd b, none⟩
    | _ => none
  | .alloc t => match Θ t with
    | some i => if i.zero.good = true then some ⟨.ptr L ((H L).1 + 1) [] 0, some (L, (H L).1 + 1, .cells i.zero)⟩ else none
    | none => none
  | .box _ x => if (rd x).good = true then some ⟨.ptr L ((H L).1 + 1) [] 0, some (L, (H L).1 + 1, .cells (rd x))⟩ else none
  | .build t ps => match Θ t with
    | some i => if i.zero.good = true then
        (aBuild Θ i (ps.toList.map fun p => (p.1, rd p.2))).map fun v => ⟨v, none⟩
      else none
    | none => none
  | .buildSlice t len ps => match Θ t with
    | some i => match i.kind with
      | .slice e => match Θ e with
        | some ei => if ei.zero.good = true ∧ 0 < ei.size ∧ len * ei.size ≤ 2 ^ 24 then
            match setElems ei.size (ps.toList.map fun p => (p.1, rd p.2)) (List.replicate len ei.zero) with
            | some xs => some ⟨.own L ((H L).1 + 1) 0 len, some (L, (H L).1 + 1, .row e ei.size xs)⟩
            | none => none
          else none
        | none => none
      | _ => none
    | none => none
  | .load t x => (aLoad Θ H t (rd x)).map fun v => ⟨v, none⟩
  | .store t x v => aStore Θ H t (rd x) (rd v)
  | .nilCheck x => match rd x with
    | .ptr d g p off => if (H d).1 = g then some ⟨.ptr d g p off, none⟩ else none
    | .iptr y => some ⟨.iptr y, none⟩
    | _ => none
  | .binOp op t x y _ => (aBin Θ op t (rd x) (rd y)).map fun v => ⟨v, none⟩
  | .unOp op _ x => (aUn op (rd x)).map fun v => ⟨v, none⟩
  | .convert s t x => match Θ s with
    | some _ => (aConv Θ s t (rd x)).map fun v => ⟨v, none⟩
    | none => none
  | .makeFunc (.func f) first caps => if first.size = 0 then some ⟨.clo f (caps.toList.map rd), none⟩ else none
  | .makeSlice t n m => aMakeSlice Θ H L t (rd n) (rd m)
  | .slice t x lo hi none => (aSlice Θ H t (rd x) (lo.map rd) (hi.map rd)).map fun v => ⟨v, none⟩
  | .fieldAddr t x f => (aFieldAddr Θ H t (rd x) f).map fun v => ⟨v, none⟩
  | .field t x f => (aField Θ t (rd x) f).map fun v => ⟨v, none⟩
  | .indexAddr t x i => (aIndexAddr Θ H t (rd x) (rd i)).map fun v => ⟨v, none⟩
  | .index t x i => (aIndex Θ t (rd x) (rd i)).map fun v => ⟨v, none⟩
  | .extract x i => match rd x with
    | .tup xs => (xs[i]?).map fun v => ⟨v, none⟩
    | _ => none
  | .call { callee := .builtin b, args, argTypes } => aBuiltin Θ H L b argTypes.toList (args.toList.map rd)
  | _ => none

/-- A row that is made under a great label is told as what never changes. -/
def sealE (L : Nat) (f : Eff) : Eff :=
  if 1000000 ≤ L then match f with
    | ⟨.own d g 0 n, some (d', g', .row e sz xs)⟩ => if d' = d ∧ g' = g ∧ n = xs.length then ⟨.sl sz xs, some (d, g, .dead)⟩ else ⟨.own d g 0 n, some (d', g', .row e sz xs)⟩
    | f => f
  else f

/-- .. so. -/
def aOp (Θ : Tab) (H : Heap) (L : Nat) (rd : Operand → Tr) (o : Op) : Option Eff := (aOp0 Θ H L rd o).map (sealE L)

end Go.Proofs.Ytnonimnhninafaa.Ab

/- Each operation yields what the plain functions say: reading operations. -/
namespace Go.Proofs.Ytnonimnhninafaa.Ab
open Go
set_option linter.unusedVariables false
set_option linter.unusedSimpArgs false

section inversions
variable {M : Mem} {v : Value}
theorem VR.int_inv {k : IntKind} {n : Int} (h : VR M (.int k n) v) : v = .int k n := by cases h <;> first | rfl | simp_all [Tr.isAgg]
theorem VR.bool_inv {b : Bool} (h : VR M (.bool b) v) : v = .bool b := by cases h <;> first | rfl | simp_all [Tr.isAgg]
theorem VR.str_inv {s : ByteArray} (h : VR M (.str s) v) : v = .string s := by cases h <;> first | rfl | simp_all [Tr.isAgg]
theorem VR.nilp_inv (h : VR M .nilp v) : v = .pointer none := by cases h <;> first | rfl | simp_all [Tr.isAgg]
theorem VR.nils_inv (h : VR M .nils v) : v = .slice none 0 0 := by cases h <;> first | rfl | simp_all [Tr.isAgg]
theorem VR.nilf_inv (h : VR M .nilf v) : v = .nilFunc := by cases h <;> first | rfl | simp_all [Tr.isAgg]
theorem VR.ptr_inv {d g : Nat} {p : List Nat} {off : Nat} (h : VR M (.ptr d g p off) v) (hg : (M.H d).1 = g) : ∃ b K, M.β d = some (b, K) ∧ v = .pointer (some ⟨b, off, none⟩) := by
  cases h <;> first | simp_all [Tr.isAgg]; done | (rename_i h1 h2 h3; exact h3 hg)
theorem VR.own_inv {d g lo len : Nat} (h : VR M (.own d g lo len) v) {e : TypeId} {sz : Nat} {xs : List Tr} (hd : M.H d = (g, .row e sz xs)) : OwnV (M.β d) sz lo len v := by
  cases h <;> first | simp_all [Tr.isAgg]; done | (rename_i h1 h2 h3; exact h3 e sz xs hd)
theorem VR.agg_inv {t : Tr} (h : VR M t v) (ha : t.isAgg = true) : ∃ cs, v = .agg cs ∧ t.wf ∧ cs.size = t.size ∧ ∀ i l, t.leaves[i]? = some l → VR M l (cs.getD i undef) := by
  cases h <;> first | (simp [Tr.isAgg] at ha; done) | exact ⟨_, rfl, by assumption, by assumption, by assumption⟩
theorem VR.iptr_inv {x : Tr} (h : VR M (.iptr x) v) : ∃ (a : Addr) (vs : Nat → Value), v = .pointer (some a) ∧ a.spot = none ∧ M.Im a.block ∧ x.wf ∧ (∀ i l, x.leaves[i]? = some l → M.w.cell? (a.add i) = some (vs i)) ∧ (∀ i l, x.leaves[i]? = some l → VR M l (vs i)) := by
  cases h <;> first | (simp_all [Tr.isAgg]; done) | exact ⟨_, _, rfl, by assumption, by assumption, by assumption, by assumption, by assumption⟩
theorem VR.sl_inv {sz : Nat} {xs : List Tr} (h : VR M (.sl sz xs) v) : ∃ (a : Option Addr) (cap : Nat) (vs : Nat → Value), v = .slice a xs.length cap ∧ xs.length ≤ cap ∧ (a = none → cap = 0) ∧ (∀ x ∈ xs, x.wf ∧ x.size = sz) ∧
    (∀ ad, a = some ad → 0 < xs.length → ad.spot = none ∧ M.Im ad.block) ∧ (∀ i l, (leavesL xs)[i]? = some l → ∃ ad, a = some ad ∧ M.w.cell? (ad.add i) = some (vs i)) ∧ (∀ i l, (leavesL xs)[i]? = some l → VR M l (vs i)) := by
  cases h <;> first | (simp_all [Tr.isAgg]; done) | exact ⟨_, _, _, rfl, by assumption, by assumption, by assumption, by assumption, by assumption, by assumption⟩
theorem VR.tup_inv {xs : List Tr} (h : VR M (.tup xs) v) : ∃ vs, v = .tuple vs ∧ vs.size = xs.length ∧ ∀ i x, xs[i]? = some x → VR M x (vs.getD i undef) := by
  cases h <;> first | (simp_all [Tr.isAgg]; done) | exact ⟨_, rfl, by assumption, by assumption⟩
theorem VR.clo_inv {f : FuncId} {xs : List Tr} (h : VR M (.clo f xs) v) : ∃ vs, v = .func (.func f) #[] vs ∧ vs.size = xs.length ∧ ∀ i x, xs[i]? = some x → VR M x (vs.getD i undef) := by
  cases h <;> first | (simp_all [Tr.isAgg]; done) | exact ⟨_, rfl, by assumption, by assumption⟩
end inversions

theorem good_wf {M : Mem} {t : Tr} {v : Value} (h : VR M t v) (hg : t.good = true) : t.wf :=
  h.wf (fun e => by simp [e, Tr.good] at hg) (fun xs e => by simp [e, Tr.good] at hg)

/-- The cells of a value that a good tree tells of. -/
theorem VR.cells {M : Mem} {t : Tr} {v : Value} (h : VR M t v) (hg : t.good = true) :
    v.cells.size = t.size ∧ ∀ i l, t.leaves[i]? = some l → VR M l (v.cells.getD i undef) := by
  have hw := good_wf h hg
  by_cases ha : t.isAgg = true
  · obtain ⟨cs, rfl, _, hs, hl⟩ := h.agg_inv ha
    exact ⟨hs, hl⟩
  · have hleaf : t.isLeaf = true := by cases t <;> simp_all [Tr.isAgg, Tr.isLeaf, Tr.good]
    have h1 := h.one hw hleaf
    have hc : v.cells = #[v] := by cases v <;> simp_all [Value.cells, Value.oneCell']
    have hlv : t.leaves = [t] := by cases t <;> simp_all [Tr.leaves, Tr.isAgg]
    have hsz : t.size = 1 := by cases t <;> simp_all [Tr.size, Tr.isAgg]
    rw [hc, hlv, hsz]
    refine ⟨rfl, fun i l hi => ?_⟩
    cases i with
    | zero => simp at hi; subst hi; simpa using h
    | succ i => simp at hi

theorem VR.cells_one {M : Mem} {t : Tr} {v : Value} (h : VR M t v) (hg : t.good = true) : ∀ u ∈ v.cells, u.oneCell' = true := by
  intro u hu
  obtain ⟨hs, hl⟩ := h.cells hg
  have hw := good_wf h hg
  obtain ⟨i, hi, rfl⟩ := Array.mem_iff_getElem.1 hu
  have hlt : i < t.leaves.length := by rw [leaves_length t hw]; omega
  have := hl i t.leaves[i] (List.getElem?_eq_getElem hlt)
  obtain ⟨hlw, hll⟩ := leaves_wf t hw _ (List.getElem_mem hlt)
  have e : v.cells.getD i undef = v.cells[i] := by simp [hi]
  rw [e] at this
  exact this.one hlw hll

/-- An aggregate or a leaf out of its cells. -/
theorem VR.of_cells {M : Mem} {t : Tr} (hw : t.wf) (hg : t.good = true) (cs : List Value) (hs : cs.length = t.size)
    (hl : ∀ (i : Nat) l, t.leaves[i]? = some l → ∃ u, cs[i]? = some u ∧ VR M l u) :
    (t.isAgg = true → VR M t (.agg cs.toArray)) ∧ (t.isAgg = false → ∃ u, cs = [u] ∧ VR M t u) := by
  constructor
  · intro ha
    refine .agg ha hw (by simpa using hs) fun i l hi => ?_
    obtain ⟨u, hu, hv⟩ := hl i l hi
    simpa [hu] using hv
  · intro ha
    have hlv : t.leaves = [t] := by cases t <;> simp_all [Tr.leaves, Tr.isAgg, Tr.good]
    have hsz : t.size = 1 := by cases t <;> simp_all [Tr.size, Tr.isAgg]
    rw [hsz] at hs
    obtain ⟨u, rfl⟩ := List.length_eq_one_iff.1 hs
    obtain ⟨u', hu', hv⟩ := hl 0 t (by simp [hlv])
    simp at hu'
    subst hu'
    exact ⟨u, rfl, hv⟩

/-- What an operation does, seen from the trees. -/
def OpOK (P : Program) (Φ : Base) (M : Mem) (x : Sem Next) (val : Tr) (H' : Heap) : Prop :=
  ∃ v M', (x.run P M.w = .ok (.value v) M'.w ∨ (x.run P M.w = .ok .skip M'.w ∧ v = undef)) ∧ M'.H = H' ∧ MemOK M' ∧ Fr Φ M' ∧ Mono M M' ∧ VR M' val v

/-- An operation that leaves the memory alone. -/
theorem OpOK.still {P : Program} {Φ : Base} {M : Mem} (ok : MemOK M) (fr : Fr Φ M) {x : Sem Next} {val : Tr} {v : Value} (hr : x.run P M.w = .ok (.value v) M.w) (hv : VR M val v) :
    OpOK P Φ M x val M.H := ⟨v, M, .inl hr, rfl, ok, fr, Mono.refl M, hv⟩

theorem add_block (a : Addr) (i : Nat) : (a.add i).block = a.block := by unfold Addr.add; split <;> rfl
theorem add_spot (a : Addr) (i : Nat) (h : a.spot = none) : (a.add i).spot = none := by unfold Addr.add; split <;> simp_all
theorem add_mk (b o i : Nat) : (⟨b, o, none⟩ : Addr).add i = ⟨b, o + i, none⟩ := Addr.add_mid b o i

/-- What lies at an address. -/
theorem aAt_sound {M : Mem} (ok : MemOK M) {x u : Tr} {v : Value} (hv : VR M x v) (h : aAt M.H x = some u) :
    ∃ a : Addr, v = .pointer (some a) ∧ u.wf ∧ ∀ i l, u.leaves[i]? = some l → ∃ c, M.w.cell? (a.add i) = some c ∧ VR M l c := by
  unfold aAt at h
  split at h
  · rename_i y
    simp only [Option.some.injEq] at h
    subst h
    obtain ⟨a, vs, rfl, _, _, hw, hc, hl⟩ := hv.iptr_inv
    exact ⟨a, rfl, hw, fun i l hi => ⟨vs i, hc i l hi, hl i l hi⟩⟩
  · rename_i d g p off
    split at h
    · rename_i hg
      obtain ⟨b, K, hb, rfl⟩ := hv.ptr_inv hg
      have ho := ok.objs d
      unfold ObjR at ho
      split at h
      · rename_i t hd
        rw [hd] at ho
        obtain ⟨hw, b', K', c, e, hb', hc, hs, hl⟩ := ho
        rw [hb] at hb'
        simp only [Option.some.injEq, Prod.mk.injEq] at hb'
        obtain ⟨rfl, rfl⟩ := hb'
        split at h
        · rename_i o u' hat
          split at h
          · rename_i hoff
            simp only [Option.some.injEq] at h
            subst h hoff
            obtain ⟨huw, k, hk, hle, hlv⟩ := at_leaves _ _ _ _ _ hw hat
            refine ⟨_, rfl, huw, fun i l hi => ?_⟩
            have hlt : i < u'.leaves.length := (List.getElem?_eq_some_iff.1 hi).1
            rw [leaves_length _ huw] at hlt
            have hi' : t.leaves[k + i]? = some l := by
              rw [← hlv, List.getElem?_take, if_pos hlt, List.getElem?_drop] at hi
              exact hi
            have hv := hl _ _ hi'
            have hlt' : k + i < c.size := by omega
            refine ⟨c[k + i], ?_, ?_⟩
            · rw [add_mk, cell_of_row M.w b (o + i) c e (0, 0) hc, hk]
              simp [hlt']
            · simpa [hlt'] using hv
          · cases h
        · cases h
      · rename_i e sz xs i p hd
        rw [hd] at ho
        obtain ⟨h0, hws, ho⟩ := ho
        rw [hb] at ho
        obtain ⟨c, hc, hs, hle, hK, hl⟩ := ho
        split at h
        · rename_i y hy
          split at h
          · rename_i o u' hat
            split at h
            · rename_i hoff
              simp only [Option.some.injEq] at h
              subst h hoff
              have hyw := (hws y (List.mem_of_getElem? hy)).1
              have hys := (hws y (List.mem_of_getElem? hy)).2
              obtain ⟨huw, k, hk, hle', hlv⟩ := at_leaves _ _ _ _ _ hyw hat
              have hi0 : i < xs.length := (List.getElem?_eq_some_iff.1 hy).1
              have hpre : (leavesL (xs.take i)).length = i * sz := by
                rw [leavesL_length _ (wfL_take ((wfL_iff _).2 fun z hz => (hws z hz).1) i), sum_size_const sz _ (fun z hz => (hws z (List.mem_of_mem_take hz)).2)]
                simp [Nat.min_eq_left (Nat.le_of_lt hi0), Nat.mul_comm]
              refine ⟨_, rfl, huw, fun j l hj => ?_⟩
              have hlt : j < u'.leaves.length := (List.getElem?_eq_some_iff.1 hj).1
              rw [leaves_length _ huw] at hlt
              have hyl := leaves_length y hyw
              have hj' : (leavesL xs)[i * sz + (k + j)]? = some l := by
                rw [leavesL_split xs i y hy, List.getElem?_append_right (by omega), hpre, List.getElem?_append_left (by omega)]
                rw [← hlv, List.getElem?_take, if_pos hlt, List.getElem?_drop] at hj
                rw [show i * sz + (k + j) - i * sz = k + j by omega]
                exact hj
              have hv := hl _ _ hj'
              have hbd : i * sz + (k + j) < c.size := by
                have h1 : (i + 1) * sz ≤ K * sz := Nat.mul_le_mul_right _ (by omega)
                rw [Nat.add_mul, Nat.one_mul] at h1
                omega
              refine ⟨c[i * sz + (k + j)], ?_, ?_⟩
              · rw [add_mk, cell_of_row M.w b _ c e (0, 0) hc, hk, Nat.add_assoc]
                simp [hbd]
              · simpa [hbd] using hv
            · cases h
          · cases h
        · cases h
      · cases h
    · cases h
  · cases h

theorem tab_size {P : Program} {Θ : Tab} (hΘ : TabOK P Θ) {t : TypeId} {i : TyI} (h : Θ t = some i) : ∃ inf, P.info? t = some inf ∧ inf.size = i.size ∧ inf.bytes = i.bytes := by
  obtain ⟨inf, h1, h2, h3, _⟩ := (hΘ t i h).info
  exact ⟨inf, h1, h2, h3⟩

theorem run_sizeOf {P : Program} {Θ : Tab} (hΘ : TabOK P Θ) {t : TypeId} {i : TyI} (h : Θ t = some i) (w : World) : (sizeOf t).run P w = .ok i.size w := by
  obtain ⟨inf, h1, h2, _⟩ := tab_size hΘ h
  simp [sizeOf, typeInfo, h1, h2]

theorem run_isAgg {P : Program} {Θ : Tab} (hΘ : TabOK P Θ) {t : TypeId} {i : TyI} (h : Θ t = some i) (w : World) : (isAgg t).run P w = .ok i.kind.isAgg w := by
  have hu := (hΘ t i h).und
  cases hi : i.kind <;> rw [hi] at hu <;> simp only at hu
  case bool => simp [isAgg, run_underlying hu, TyK.isAgg]
  case int k => simp [isAgg, run_underlying hu, TyK.isAgg]
  case str => simp [isAgg, run_underlying hu, TyK.isAgg]
  case ptr e => simp [isAgg, run_underlying hu, TyK.isAgg]
  case slice e => simp [isAgg, run_underlying hu, TyK.isAgg]
  case array n e => simp [isAgg, run_underlying hu.1, TyK.isAgg]
  case struct offs tys => obtain ⟨fs, hu, _⟩ := hu; simp [isAgg, run_underlying hu, TyK.isAgg]
  case func => obtain ⟨_, _, _, hu⟩ := hu; simp [isAgg, run_underlying hu, TyK.isAgg]
  case tuple => obtain ⟨_, hu⟩ := hu; simp [isAgg, run_underlying hu, TyK.isAgg]
  case other => obtain ⟨d, hu, hd⟩ := hu; cases d <;> simp_all [isAgg, run_underlying hu, TyK.isAgg, TypeDesc.isRow]

/-- A part of a tree is read out of the memory. -/
theorem run_load_tree {P : Program} {Θ : Tab} (hΘ : TabOK P Θ) {M : Mem} {t : TypeId} {i : TyI} (ht : Θ t = some i) {u : Tr} (hw : u.wf) (hg : u.good = true) (hs : u.size = i.size) (ha : u.isAgg = i.kind.isAgg)
    (a : Addr) (hc : ∀ j l, u.leaves[j]? = some l → ∃ c, M.w.cell? (a.add j) = some c ∧ VR M l c) :
    ∃ v, (loadVar t a).run P M.w = .ok v M.w ∧ VR M u v := by
  have hlen := leaves_length u hw
  let cs : List Value := (List.range u.size).map fun j => (M.w.cell? (a.add j)).getD undef
  have hcs : cs.length = u.size := by simp [cs]
  have hcell : ∀ (j : Nat) c, cs[j]? = some c → M.w.cell? (a.add j) = some c := by
    intro j c hj
    have hjl : j < u.size := by have := (List.getElem?_eq_some_iff.1 hj).1; omega
    obtain ⟨c', hc', _⟩ := hc j _ (List.getElem?_eq_getElem (by omega))
    simp only [cs, List.getElem?_map, List.getElem?_range hjl, Option.map_some, hc', Option.getD_some, Option.some.injEq] at hj
    rw [hc', hj]
  have hof := VR.of_cells (M := M) hw hg cs hcs (fun j l hj => by
    obtain ⟨c, hcc, hv⟩ := hc j l hj
    have hjl : j < u.size := by have := (List.getElem?_eq_some_iff.1 hj).1; omega
    exact ⟨c, by simp [cs, hjl, hcc], hv⟩)
  cases hag : i.kind.isAgg with
  | true =>
    refine ⟨.agg cs.toArray, ?_, hof.1 (ha.trans hag)⟩
    have hl := run_loadCells_list (P := P) M.w a cs hcell
    rw [hcs] at hl
    simp only [loadVar, Sem.run_bind, run_isAgg hΘ ht, hag, Result.andThen_ok, if_true, run_sizeOf hΘ ht, ← hs, hl, Sem.run_pure]
  | false =>
    obtain ⟨c, he, hv⟩ := hof.2 (ha.trans hag)
    refine ⟨c, ?_, hv⟩
    have h0 := hcell 0 c (by simp [he])
    rw [Addr.add_zero'] at h0
    simp only [loadVar, Sem.run_bind, run_isAgg hΘ ht, hag, Result.andThen_ok, Bool.false_eq_true, if_false, run_load, h0]

end Go.Proofs.Ytnonimnhninafaa.Ab

/- Each operation yields what the plain functions say: addresses, cuts. -/
namespace Go.Proofs.Ytnonimnhninafaa.Ab
open Go
set_option linter.unusedVariables false
set_option linter.unusedSimpArgs false

theorem add_add (a : Addr) (m n : Nat) : (a.add m).add n = a.add (m + n) := by
  unfold Addr.add
  by_cases hm : m = 0
  · simp [hm]
  · by_cases hn : n = 0
    · simp [hm, hn]
    · simp [hm, hn, Nat.add_assoc]

theorem leavesL_pre (sz : Nat) (xs : List Tr) (h : ∀ x ∈ xs, x.wf ∧ x.size = sz) (i : Nat) (hi : i ≤ xs.length) : (leavesL (xs.take i)).length = i * sz := by
  rw [leavesL_length _ (wfL_take ((wfL_iff _).2 fun z hz => (h z hz).1) i), sum_size_const sz _ (fun z hz => (h z (List.mem_of_mem_take hz)).2)]
  simp [Nat.min_eq_left hi, Nat.mul_comm]

theorem leavesL_drop (sz : Nat) (xs : List Tr) (h : ∀ x ∈ xs, x.wf ∧ x.size = sz) (i : Nat) (hi : i ≤ xs.length) : leavesL (xs.drop i) = (leavesL xs).drop (i * sz) := by
  conv => rhs; rw [← List.take_append_drop i xs]
  rw [leavesL_append, ← leavesL_pre sz xs h i hi, List.drop_left]

theorem leavesL_take (sz : Nat) (xs : List Tr) (h : ∀ x ∈ xs, x.wf ∧ x.size = sz) (i : Nat) (hi : i ≤ xs.length) : leavesL (xs.take i) = (leavesL xs).take (i * sz) := by
  conv => rhs; rw [← List.take_append_drop i xs]
  rw [leavesL_append, ← leavesL_pre sz xs h i hi, List.take_left]

theorem leavesL_take' (sz : Nat) (xs : List Tr) (h : ∀ x ∈ xs, x.wf ∧ x.size = sz) (i : Nat) : leavesL (xs.take i) = (leavesL xs).take (i * sz) := by
  rcases Nat.lt_or_ge i xs.length with h' | h'
  · exact leavesL_take sz xs h i (Nat.le_of_lt h')
  · rw [List.take_of_length_le h', List.take_of_length_le]
    have := leavesL_pre sz xs h xs.length (Nat.le_refl _)
    rw [List.take_length] at this
    rw [this]
    exact Nat.mul_le_mul_right _ h'

theorem leavesL_elem (sz : Nat) (xs : List Tr) (h : ∀ x ∈ xs, x.wf ∧ x.size = sz) (i : Nat) (x : Tr) (hx : xs[i]? = some x) (j : Nat) (l : Tr) (hj : x.leaves[j]? = some l) :
    (leavesL xs)[i * sz + j]? = some l := by
  have hi : i < xs.length := (List.getElem?_eq_some_iff.1 hx).1
  have hpre := leavesL_pre sz xs h i (Nat.le_of_lt hi)
  have hjl : j < x.leaves.length := (List.getElem?_eq_some_iff.1 hj).1
  rw [leavesL_split xs i x hx, List.getElem?_append_right (by omega), hpre, List.getElem?_append_left (by omega)]
  rw [show i * sz + j - i * sz = j by omega]
  exact hj

section
variable {P : Program} {Θ : Tab} (hΘ : TabOK P Θ) {Φ : Base} {M : Mem}

theorem map_get {α β : Type} (f : α → β) (l : List α) (i : Nat) (b : β) (h : (l.map f)[i]? = some b) : ∃ a, l[i]? = some a ∧ f a = b := by
  rw [List.getElem?_map] at h
  exact Option.map_eq_some_iff.1 h

include hΘ in
theorem fieldAddr_sound {t : TypeId} {x r : Tr} {f : Nat} {v : Value} (hv : VR M x v) (h : aFieldAddr Θ M.H t x f = some r) :
    ∃ u, (Instr.fieldAt t v f).run P M.w = .ok u M.w ∧ VR M r u := by
  unfold aFieldAddr at h
  split at h
  · rename_i i hi
    split at h
    · rename_i offs tys hk
      split at h
      · rename_i o tf ho htf
        split at h
        · rename_i ti hti
          split at h
          · cases h
          · rename_i hz
            have hu := (hΘ t i hi).und
            rw [hk] at hu
            obtain ⟨fs, hu, hofs, htys, _⟩ := hu
            rw [← hofs] at ho
            rw [← htys] at htf
            obtain ⟨fl, hfl, rfl⟩ := map_get _ _ _ _ ho
            obtain ⟨fl', hfl', rfl⟩ := map_get _ _ _ _ htf
            rw [hfl] at hfl'
            obtain rfl := Option.some.inj hfl'
            have hfa : fs[f]? = some fl := by simpa using hfl
            have key : ∀ a : Addr, v = .pointer (some a) → (Instr.fieldAt t v f).run P M.w = .ok (.pointer (some (a.add fl.offset))) M.w := by
              intro a ha
              simp only [Instr.fieldAt, Sem.run_bind, run_underlying hu, Result.andThen_ok, hfa, ha, Instr.sureAddr, Sem.run_pure, fieldPlace, run_sizeOf hΘ hti, hz, if_false]
            split at h
            · rename_i d g p off
              split at h
              · rename_i hg
                simp only [Option.some.injEq] at h
                subst h
                obtain ⟨b, K, hb, hve⟩ := hv.ptr_inv hg
                refine ⟨_, key _ hve, ?_⟩
                rw [add_mk]
                exact .ptr rfl (by omega) fun _ => ⟨b, K, hb, rfl⟩
              · cases h
            · rename_i sz os xs
              split at h
              · rename_i hos
                obtain ⟨y, hy, rfl⟩ := Option.map_eq_some_iff.1 h
                obtain ⟨a, vs, hve, hsp, hI, hw, hc, hl⟩ := hv.iptr_inv
                refine ⟨_, key _ hve, ?_⟩
                have hofo : os[f]? = some fl.offset := by rw [hos, ← hofs, List.getElem?_map, hfl]; rfl
                have hat : Tr.atF 0 [f] (.node sz os xs) = some (0 + fl.offset, y) := by simp [Tr.atF, hofo, hy]
                obtain ⟨hyw, k, hk', hle, hlv⟩ := at_leaves _ _ _ _ _ hw hat
                have hk'' : k = fl.offset := by omega
                subst hk''
                have hyl := leaves_length y hyw
                have hsh : ∀ j l, y.leaves[j]? = some l → (Tr.node sz os xs).leaves[fl.offset + j]? = some l := by
                  intro j l hj
                  have hjl : j < y.leaves.length := (List.getElem?_eq_some_iff.1 hj).1
                  rw [← hlv, List.getElem?_take, if_pos (by omega), List.getElem?_drop] at hj
                  exact hj
                refine .iptr (fun j => vs (fl.offset + j)) (add_spot _ _ hsp) (by rw [add_block]; exact hI) hyw (fun j l hj => ?_) (fun j l hj => hl _ _ (hsh j l hj))
                rw [add_add]
                exact hc _ _ (hsh j l hj)
              · cases h
            · cases h
        · cases h
      · cases h
    · cases h
  · cases h

include hΘ in
theorem part_sound {t : TypeId} {i : TyI} (ht : Θ t = some i) {sub : Tr} {cs : Array Value} {off : Nat} (hw : sub.wf) (hg : sub.good = true) (hs : sub.size = i.size) (ha : sub.isAgg = i.kind.isAgg)
    (hle : off + sub.size ≤ cs.size) (hl : ∀ j l, sub.leaves[j]? = some l → VR M l (cs.getD (off + j) undef)) :
    ∃ u, (part t cs off).run P M.w = .ok u M.w ∧ VR M sub u := by
  have hlen := leaves_length sub hw
  let ds : List Value := (cs.extract off (off + sub.size)).toList
  have hds : ds.length = sub.size := by simp [ds]; omega
  have hdg : ∀ j, j < sub.size → ds[j]? = some (cs.getD (off + j) undef) := by
    intro j hj
    have h1 : off + j < cs.size := by omega
    simp only [ds, Array.getElem?_toList, Array.getElem?_extract]
    rw [if_pos (by omega)]
    simp [h1]
  have hof := VR.of_cells (M := M) hw hg ds hds (fun j l hj => by
    have hjl : j < sub.size := by have := (List.getElem?_eq_some_iff.1 hj).1; omega
    exact ⟨_, hdg j hjl, hl j l hj⟩)
  cases hag : i.kind.isAgg with
  | true =>
    refine ⟨.agg ds.toArray, ?_, hof.1 (ha.trans hag)⟩
    simp only [part, Sem.run_bind, run_isAgg hΘ ht, hag, Result.andThen_ok, if_true, run_sizeOf hΘ ht, ← hs, Sem.run_pure]
    simp only [ds, Array.toArray_toList]
  | false =>
    obtain ⟨c, he, hv⟩ := hof.2 (ha.trans hag)
    refine ⟨c, ?_, hv⟩
    have h0 : 0 < sub.size := by rw [← hds, he]; simp
    have h1 := hdg 0 h0
    rw [he] at h1
    simp only [List.getElem?_cons_zero, Option.some.injEq, Nat.add_zero] at h1
    have h2 : off < cs.size := by omega
    have h3 : cs[off]? = some c := by rw [h1]; simp [h2]
    simp only [part, Sem.run_bind, run_isAgg hΘ ht, hag, Result.andThen_ok, Bool.false_eq_true, if_false, h3, Sem.run_pure]

include hΘ in
theorem field_sound {t : TypeId} {x r : Tr} {f : Nat} {v : Value} (hv : VR M x v) (h : aField Θ t x f = some r) :
    ∃ u, (Instr.field t v f).run P M.w = .ok u M.w ∧ VR M r u := by
  unfold aField at h
  split at h
  · rename_i i hi
    split at h
    · rename_i offs tys sz os xs hk
      split at h
      · rename_i tf y htf hy
        split at h
        · rename_i ti hti
          split at h
          · rename_i hc
            obtain ⟨hos, hys, hya, hyg⟩ := hc
            obtain rfl := Option.some.inj h
            have hu := (hΘ t i hi).und
            rw [hk] at hu
            obtain ⟨fs, hu, hofs, htys, _⟩ := hu
            rw [← htys] at htf
            obtain ⟨fl, hfl, rfl⟩ := map_get _ _ _ _ htf
            have hfa : fs[f]? = some fl := by simpa using hfl
            obtain ⟨cs, rfl, hw, hsz, hl⟩ := hv.agg_inv rfl
            have hofo : os[f]? = some fl.offset := by rw [hos, ← hofs, List.getElem?_map, hfl]; rfl
            have hat : Tr.atF 0 [f] (.node sz os xs) = some (0 + fl.offset, y) := by simp [Tr.atF, hofo, hy]
            obtain ⟨hyw, k, hk', hle, hlv⟩ := at_leaves _ _ _ _ _ hw hat
            have hk'' : k = fl.offset := by omega
            subst hk''
            have hyl := leaves_length y hyw
            obtain ⟨u, hr, hvu⟩ := part_sound (P := P) (M := M) hΘ hti (cs := cs) (off := fl.offset) hyw hyg hys hya (by rw [hsz]; exact hle) (fun j l hj => by
              refine hl _ _ ?_
              have hjl : j < y.leaves.length := (List.getElem?_eq_some_iff.1 hj).1
              rw [← hlv, List.getElem?_take, if_pos (by omega), List.getElem?_drop] at hj
              exact hj)
            refine ⟨u, ?_, hvu⟩
            simp only [Instr.field, Sem.run_bind, run_underlying hu, Result.andThen_ok, hfa, asAgg, Sem.run_pure, hr]
          · cases h
        · cases h
      · cases h
    · cases h
  · cases h

theorem IntOf {k : IntKind} {n : Int} {v : Value} (h : VR M (.int k n) v) : v = .int k n := h.int_inv

include hΘ in
theorem indexAddr_sound {t : TypeId} {x i r : Tr} {v vi : Value} (hv : VR M x v) (hvi : VR M i vi) (h : aIndexAddr Θ M.H t x i = some r) :
    ∃ u, (Instr.indexAt t v vi).run P M.w = .ok u M.w ∧ VR M r u := by
  unfold aIndexAddr at h
  split at h
  · rename_i ti k n hti
    obtain rfl := hvi.int_inv
    split at h
    · rename_i e hk
      have hu := (hΘ t ti hti).und
      rw [hk] at hu
      split at h
      · rename_i ei hei
        split at h
        · rename_i sz xs
          split at h
          · rename_i hc
            obtain ⟨hsz, h0⟩ := hc
            obtain ⟨y, hy, rfl⟩ := Option.map_eq_some_iff.1 h
            obtain ⟨a, cap, vs, rfl, hcap, hnil, hw, hI, hcell, hl⟩ := hv.sl_inv
            have hlt : n.toNat < xs.length := (List.getElem?_eq_some_iff.1 hy).1
            cases a with
            | none => have := hnil rfl; omega
            | some ad =>
              obtain ⟨hsp, hIm⟩ := hI ad rfl (by omega)
              refine ⟨.pointer (some (ad.add (n.toNat * sz))), ?_, ?_⟩
              · simp only [Instr.indexAt, asIntOf, Sem.run_bind, Sem.run_pure, Result.andThen_ok, run_underlying hu]
                rw [hsz]
                simp only [show (0 ≤ n ∧ n < (xs.length : Int)) = True from by simp; omega, if_true, Sem.run_bind, run_sizeOf hΘ hei, Result.andThen_ok, Sem.run_pure]
              · have hyw := (hw y (List.mem_of_getElem? hy)).1
                refine .iptr (fun j => vs (n.toNat * sz + j)) (add_spot _ _ hsp) (by rw [add_block]; exact hIm) hyw (fun j l hj => ?_) (fun j l hj => hl _ _ (leavesL_elem sz xs hw _ _ hy j l hj))
                obtain ⟨ad', e1, e2⟩ := hcell _ _ (leavesL_elem sz xs hw _ _ hy j l hj)
                obtain rfl := Option.some.inj e1
                rw [add_add]
                exact e2
          · cases h
        · rename_i d g lo len
          split at h
          · rename_i g' e' sz xs hd
            split at h
            · rename_i hc
              obtain ⟨rfl, hsz, h0, hlt, hle⟩ := hc
              obtain rfl := Option.some.inj h
              have ho := hv.own_inv hd
              unfold OwnV at ho
              cases hb : M.β d with
              | none => rw [hb] at ho; simp only at ho; omega
              | some bK =>
                obtain ⟨b, K⟩ := bK
                rw [hb] at ho
                obtain ⟨ad, rfl, hK, had⟩ := ho
                obtain rfl := had (by omega)
                refine ⟨.pointer (some ((⟨b, lo * sz, none⟩ : Addr).add (n.toNat * sz))), ?_, ?_⟩
                · simp only [Instr.indexAt, asIntOf, Sem.run_bind, Sem.run_pure, Result.andThen_ok, run_underlying hu]
                  simp only [show (0 ≤ n ∧ n < (len : Int)) = True from by simp; omega, if_true, Sem.run_bind, run_sizeOf hΘ hei, Result.andThen_ok, Sem.run_pure, hsz]
                · rw [add_mk]
                  refine .ptr rfl (by simp [hd]) fun _ => ⟨b, K, hb, ?_⟩
                  rw [Nat.add_mul]
            · cases h
          · cases h
        · cases h
      · cases h
    · rename_i m e hk
      have hu := (hΘ t ti hti).und
      rw [hk] at hu
      split at h
      · rename_i ei hei
        split at h
        · rename_i d g p off
          split at h
          · rename_i hc
            obtain ⟨hg, h0, hlt⟩ := hc
            obtain rfl := Option.some.inj h
            obtain ⟨b, K, hb, rfl⟩ := hv.ptr_inv hg
            refine ⟨.pointer (some ((⟨b, off, none⟩ : Addr).add (n.toNat * ei.size))), ?_, ?_⟩
            · simp only [Instr.indexAt, asIntOf, Sem.run_bind, Sem.run_pure, Result.andThen_ok, run_underlying hu.1, Instr.sureAddr]
              simp only [show (0 ≤ n ∧ n < (m : Int)) = True from by simp; omega, if_true, Sem.run_bind, run_sizeOf hΘ hei, Result.andThen_ok, Sem.run_pure]
            · rw [add_mk]
              exact .ptr rfl (by omega) fun _ => ⟨b, K, hb, rfl⟩
          · cases h
        · rename_i sz xs
          split at h
          · rename_i hc
            obtain ⟨hsz, h0, hlt⟩ := hc
            obtain ⟨y, hy, rfl⟩ := Option.map_eq_some_iff.1 h
            obtain ⟨a, vs, rfl, hsp, hI, hw, hcell, hl⟩ := hv.iptr_inv
            simp only [Tr.wf] at hw
            have hws : ∀ z ∈ xs, z.wf ∧ z.size = sz := fun z hz => ⟨(wfL_iff _).1 hw.2 z hz, hw.1 z hz⟩
            refine ⟨.pointer (some (a.add (n.toNat * ei.size))), ?_, ?_⟩
            · simp only [Instr.indexAt, asIntOf, Sem.run_bind, Sem.run_pure, Result.andThen_ok, run_underlying hu.1, Instr.sureAddr]
              simp only [show (0 ≤ n ∧ n < (m : Int)) = True from by simp; omega, if_true, Sem.run_bind, run_sizeOf hΘ hei, Result.andThen_ok, Sem.run_pure]
            · have hyw := (hws y (List.mem_of_getElem? hy)).1
              have hsh : ∀ j l, y.leaves[j]? = some l → (Tr.arr sz xs).leaves[n.toNat * sz + j]? = some l := fun j l hj => by
                simpa [Tr.leaves] using leavesL_elem sz xs hws _ _ hy j l hj
              rw [← hsz]
              refine .iptr (fun j => vs (n.toNat * sz + j)) (add_spot _ _ hsp) (by rw [add_block]; exact hI) hyw (fun j l hj => ?_) (fun j l hj => hl _ _ (hsh j l hj))
              rw [add_add]
              exact hcell _ _ (hsh j l hj)
          · cases h
        · cases h
      · cases h
    · cases h
  · cases h

include hΘ in
theorem index_sound {t : TypeId} {x i r : Tr} {v vi : Value} (hv : VR M x v) (hvi : VR M i vi) (h : aIndex Θ t x i = some r) :
    ∃ u, (Instr.index t v vi).run P M.w = .ok u M.w ∧ VR M r u := by
  unfold aIndex at h
  split at h
  · rename_i ti s k n hti
    obtain rfl := hvi.int_inv
    obtain rfl := hv.str_inv
    split at h
    · rename_i hk
      have hu := (hΘ t ti hti).und
      rw [hk] at hu
      split at h
      · rename_i h0
        obtain ⟨b, hb, rfl⟩ := Option.map_eq_some_iff.1 h
        refine ⟨.int .u8 b.toNat, ?_, .int _ _⟩
        simp only [Instr.index, asIntOf, Sem.run_bind, Sem.run_pure, Result.andThen_ok, run_underlying hu, h0, if_true, hb]
      · cases h
    · cases h
  · rename_i ti sz xs k n hti
    obtain rfl := hvi.int_inv
    split at h
    · rename_i m e hk
      have hu := (hΘ t ti hti).und
      rw [hk] at hu
      split at h
      · rename_i ei y hei hy
        split at h
        · rename_i hc
          obtain ⟨hsz, h0, hlt, hya, hyg⟩ := hc
          obtain rfl := Option.some.inj h
          obtain ⟨cs, rfl, hw, hcs, hl⟩ := hv.agg_inv rfl
          simp only [Tr.wf] at hw
          have hws : ∀ z ∈ xs, z.wf ∧ z.size = sz := fun z hz => ⟨(wfL_iff _).1 hw.2 z hz, hw.1 z hz⟩
          have hy2 := hws y (List.mem_of_getElem? hy)
          have hyi : n.toNat < xs.length := (List.getElem?_eq_some_iff.1 hy).1
          obtain ⟨u, hr, hvu⟩ := part_sound (P := P) (M := M) hΘ hei (cs := cs) (off := n.toNat * sz) hy2.1 hyg (hy2.2.trans hsz) hya (by
              rw [hcs, size_arr, hy2.2]
              have : (n.toNat + 1) * sz ≤ xs.length * sz := Nat.mul_le_mul_right _ (by omega)
              rw [Nat.add_mul, Nat.one_mul] at this
              rw [Nat.mul_comm sz]; exact this) (fun j l hj => by
              refine hl _ _ ?_
              simpa [Tr.leaves] using leavesL_elem sz xs hws _ _ hy j l hj)
          refine ⟨u, ?_, hvu⟩
          simp only [Instr.index, asIntOf, Sem.run_bind, Sem.run_pure, Result.andThen_ok, run_underlying hu.1]
          simp only [show (0 ≤ n ∧ n < (m : Int)) = True from by simp; omega, if_true, Sem.run_bind, run_sizeOf hΘ hei, Result.andThen_ok, ← hsz, hr]
        · cases h
      · cases h
    · cases h
  · cases h

theorem bound_run {x : Option Tr} {v : Option Value} {y : Nat} {code : BoundsCode} {dflt : Nat} {n : Int} {w : World}
    (hv : ∀ t, x = some t → ∃ u, v = some u ∧ VR M t u) (hn : x = none → v = none) (h : aBound x dflt = some n) (h0 : 0 ≤ n) (h1 : n ≤ y) :
    (match v with | some v => Instr.sliceBound v y code | none => (pure dflt : Sem Nat)).run P w = .ok n.toNat w := by
  cases x with
  | none =>
    rw [hn rfl]
    simp only [aBound, Option.some.injEq] at h
    subst h
    simp
  | some t =>
    obtain ⟨u, rfl, hu⟩ := hv t rfl
    cases t <;> simp only [aBound, Option.some.injEq, reduceCtorEq] at h
    rename_i k n'
    subst h
    obtain rfl := hu.int_inv
    simp only [Instr.sliceBound, asIntOf, Sem.run_bind, Sem.run_pure, Result.andThen_ok, Sem.run_ite]
    rw [if_pos ⟨h0, h1⟩]

/-- The bounds of a cut. -/
theorem bounds_run {lo hi : Option Tr} {vlo vhi : Option Value} {isS : Bool} {len cap : Nat} {l h : Int} {w : World}
    (hlo : ∀ t, lo = some t → ∃ u, vlo = some u ∧ VR M t u) (hlo' : lo = none → vlo = none) (hhi : ∀ t, hi = some t → ∃ u, vhi = some u ∧ VR M t u) (hhi' : hi = none → vhi = none)
    (el : aBound lo 0 = some l) (eh : aBound hi len = some h) (h0 : 0 ≤ l) (h1 : l ≤ h) (h2 : h ≤ cap) :
    (Instr.sliceBounds isS len cap vlo vhi none).run P w = .ok (l.toNat, h.toNat, cap) w := by
  have e1 := bound_run (P := P) (w := w) (code := if isS then .sliceAcap else .sliceAlen) (y := cap) (dflt := len) hhi hhi' eh (by omega) h2
  have e2 := bound_run (P := P) (w := w) (code := .sliceB) (y := h.toNat) (dflt := 0) hlo hlo' el h0 (by omega)
  cases vhi <;> cases vlo <;> simp_all [Instr.sliceBounds, Sem.run_bind, Result.andThen_ok]

include hΘ in
theorem slice_sound {t : TypeId} {x r : Tr} {lo hi : Option Tr} {v : Value} {vlo vhi : Option Value} (hv : VR M x v)
    (hlo : ∀ t, lo = some t → ∃ u, vlo = some u ∧ VR M t u) (hlo' : lo = none → vlo = none) (hhi : ∀ t, hi = some t → ∃ u, vhi = some u ∧ VR M t u) (hhi' : hi = none → vhi = none)
    (h : aSlice Θ M.H t x lo hi = some r) :
    ∃ u, (Instr.sliceAt t v vlo vhi none).run P M.w = .ok u M.w ∧ VR M r u := by
  unfold aSlice at h
  split at h
  · rename_i ti hti
    have hu := (hΘ t ti hti).und
    split at h
    · rename_i s hk
      rw [hk] at hu
      split at h
      · rename_i l h' el eh
        split at h
        · rename_i hc
          obtain rfl := Option.some.inj h
          obtain rfl := hv.str_inv
          refine ⟨.string (s.extract l.toNat h'.toNat), ?_, .str _⟩
          have hb := bounds_run (P := P) (w := M.w) (isS := false) (len := s.size) (cap := s.size) hlo hlo' hhi hhi' el eh hc.1 hc.2.1 hc.2.2
          simp only [Instr.sliceAt, Sem.run_bind, run_underlying hu, Result.andThen_ok, Instr.slice, Option.isSome_none, Bool.false_eq_true, if_false, hb, Sem.run_pure]
        · cases h
      · cases h
    · rename_i e sz xs hk
      rw [hk] at hu
      split at h
      · rename_i ei l h' hei el eh
        split at h
        · rename_i hc
          obtain ⟨hsz, h0, h1, h2⟩ := hc
          obtain rfl := Option.some.inj h
          obtain ⟨a, cap, vs, rfl, hcap, hnil, hw, hI, hcell, hl⟩ := hv.sl_inv
          have hb := bounds_run (P := P) (w := M.w) (isS := true) (len := xs.length) (cap := cap) hlo hlo' hhi hhi' el eh h0 h1 (by omega)
          have hlen : ((xs.take h'.toNat).drop l.toNat).length = h'.toNat - l.toNat := by simp; omega
          refine ⟨.slice (if cap = l.toNat then a else a.map (·.add (l.toNat * sz))) ((xs.take h'.toNat).drop l.toNat).length (cap - l.toNat), ?_, ?_⟩
          · simp only [Instr.sliceAt, Sem.run_bind, run_underlying hu, Result.andThen_ok, Instr.slice, hb, run_sizeOf hΘ hei, Sem.run_pure, hlen, hsz]
          · have hlv : leavesL ((xs.take h'.toNat).drop l.toNat) = ((leavesL xs).take (h'.toNat * sz)).drop (l.toNat * sz) := by
              rw [leavesL_drop sz _ (fun z hz => hw z (List.mem_of_mem_take hz)) _ (by simp; omega), leavesL_take sz _ hw _ (by omega)]
            have hsub : ∀ j lf, (leavesL ((xs.take h'.toNat).drop l.toNat))[j]? = some lf → (leavesL xs)[l.toNat * sz + j]? = some lf := by
              intro j lf hj
              rw [hlv, List.getElem?_drop, List.getElem?_take] at hj
              split at hj
              · exact hj
              · cases hj
            refine .sl (fun j => vs (l.toNat * sz + j)) (by omega) (fun ha => ?_) (fun z hz => hw z (List.mem_of_mem_take (List.mem_of_mem_drop hz))) (fun ad ha hp => ?_) (fun j lf hj => ?_) (fun j lf hj => hl _ _ (hsub j lf hj))
            · split at ha
              · have := hnil ha; omega
              · have : a = none := by simpa using ha
                have := hnil this; omega
            · have hne : ¬ cap = l.toNat := by omega
              rw [if_neg hne] at ha
              obtain ⟨ad0, rfl, rfl⟩ := Option.map_eq_some_iff.1 ha
              obtain ⟨i1, i2⟩ := hI ad0 rfl (by omega)
              exact ⟨add_spot _ _ i1, by rw [add_block]; exact i2⟩
            · obtain ⟨ad0, rfl, e2⟩ := hcell _ _ (hsub j lf hj)
              have hne : ¬ cap = l.toNat := by
                intro hcl
                have : ((xs.take h'.toNat).drop l.toNat) = [] := by apply List.eq_nil_of_length_eq_zero; omega
                rw [this] at hj
                simp [leavesL] at hj
              rw [if_neg hne]
              exact ⟨_, rfl, by rw [add_add]; exact e2⟩
        · cases h
      · cases h
    · rename_i e d g lo0 len hk
      rw [hk] at hu
      split at h
      · rename_i ei g' e' sz xs l h' hei hd el eh
        split at h
        · rename_i hc
          obtain ⟨rfl, hsz, h0, h1, h2⟩ := hc
          obtain rfl := Option.some.inj h
          have ho := hv.own_inv hd
          unfold OwnV at ho
          cases hb : M.β d with
          | none =>
            rw [hb] at ho
            obtain ⟨rfl, rfl, rfl⟩ := ho
            have el0 : l.toNat = 0 := by omega
            have eh0 : h'.toNat = 0 := by omega
            have hbr := bounds_run (P := P) (w := M.w) (isS := true) (len := 0) (cap := 0) hlo hlo' hhi hhi' el eh h0 h1 (by omega)
            refine ⟨.slice none 0 0, ?_, ?_⟩
            · simp only [Instr.sliceAt, Sem.run_bind, run_underlying hu, Result.andThen_ok, Instr.slice, hbr, run_sizeOf hΘ hei, Sem.run_pure, el0, eh0]
              simp
            · refine .own rfl (by simp [hd]) fun e2 sz2 xs2 hd2 => ?_
              unfold OwnV
              rw [hb]
              simp [el0, eh0]
          | some bK =>
            obtain ⟨b, K⟩ := bK
            rw [hb] at ho
            obtain ⟨ad, rfl, hK, had⟩ := ho
            have hbr := bounds_run (P := P) (w := M.w) (isS := true) (len := len) (cap := K - lo0) hlo hlo' hhi hhi' el eh h0 h1 (by omega)
            refine ⟨.slice (if K - lo0 = l.toNat then some ad else some (ad.add (l.toNat * sz))) (h'.toNat - l.toNat) (K - lo0 - l.toNat), ?_, ?_⟩
            · simp only [Instr.sliceAt, Sem.run_bind, run_underlying hu, Result.andThen_ok, Instr.slice, hbr, run_sizeOf hΘ hei, Sem.run_pure, hsz, Option.map_some]
            · refine .own (by rfl) (by simp [hd]) fun e2 sz2 xs2 hd2 => ?_
              rw [hd] at hd2
              simp only [Prod.mk.injEq, AObj.row.injEq, true_and] at hd2
              obtain ⟨_, hsz2, _⟩ := hd2
              subst hsz2
              unfold OwnV
              rw [hb]
              refine ⟨if K - lo0 = l.toNat then ad else ad.add (l.toNat * sz), ?_, by omega, fun hlt => ?_⟩
              · split <;> simp <;> omega
              · rw [if_neg (by omega), had (by omega), add_mk, Nat.add_mul]
        · cases h
      · cases h
    · rename_i e hk
      rw [hk] at hu
      split at h
      · rename_i ei hei el eh
        obtain rfl := Option.some.inj h
        obtain rfl := hv.nils_inv
        have hbr := bounds_run (P := P) (w := M.w) (isS := true) (len := 0) (cap := 0) hlo hlo' hhi hhi' el eh (by omega) (by omega) (by omega)
        refine ⟨.slice none 0 0, ?_, .nils⟩
        simp only [Instr.sliceAt, Sem.run_bind, run_underlying hu, Result.andThen_ok, Instr.slice, hbr, run_sizeOf hΘ ‹_›, Sem.run_pure]
        simp
      · cases h
    · cases h
  · cases h

end
end Go.Proofs.Ytnonimnhninafaa.Ab

/- Each operation yields what the plain functions say: reckoning, comparing. -/
namespace Go.Proofs.Ytnonimnhninafaa.Ab
open Go
set_option linter.unusedVariables false
set_option linter.unusedSimpArgs false

section
variable {P : Program} {Θ : Tab} (hΘ : TabOK P Θ) {M : Mem}

theorem eqT_kind {Θ : Tab} {n : Nat} {t : TypeId} {x y : Tr} {b : Bool} {i : TyI} (ht : Θ t = some i) (h : eqT Θ (n + 1) t x y = some b) :
    x.isAgg = i.kind.isAgg ∧ y.isAgg = i.kind.isAgg ∧ x.good = true ∧ y.good = true := by
  simp only [eqT, ht] at h
  split at h <;> first | (cases h; done) | (rename_i hk; simp [hk, Tr.isAgg, TyK.isAgg, Tr.good])

/-- The cells of a part are its leaves. -/
def CellsAt (M : Mem) (cs : Array Value) (off : Nat) (x : Tr) : Prop :=
  x.wf ∧ off + x.size ≤ cs.size ∧ ∀ j l, x.leaves[j]? = some l → VR M l (cs.getD (off + j) undef)

theorem cellsAt_node {cs : Array Value} {sz : Nat} {os : List Nat} {xs : List Tr} (hw : (Tr.node sz os xs).wf) (hs : cs.size = sz)
    (hl : ∀ i l, (Tr.node sz os xs).leaves[i]? = some l → VR M l (cs.getD i undef)) {j o : Nat} {x : Tr} (ho : os[j]? = some o) (hx : xs[j]? = some x) : CellsAt M cs o x := by
  have hat : Tr.atF 0 [j] (.node sz os xs) = some (0 + o, x) := by simp [Tr.atF, ho, hx]
  obtain ⟨hyw, k, hk', hle, hlv⟩ := at_leaves _ _ _ _ _ hw hat
  have hk'' : k = o := by omega
  subst hk''
  have hyl := leaves_length x hyw
  refine ⟨hyw, by rw [hs]; exact hle, fun j l hj => hl _ _ ?_⟩
  have hjl : j < x.leaves.length := (List.getElem?_eq_some_iff.1 hj).1
  rw [← hlv, List.getElem?_take, if_pos (by omega), List.getElem?_drop] at hj
  exact hj

theorem cellsAt_arr {cs : Array Value} {sz : Nat} {xs : List Tr} (hw : (Tr.arr sz xs).wf) (hs : cs.size = sz * xs.length)
    (hl : ∀ i l, (Tr.arr sz xs).leaves[i]? = some l → VR M l (cs.getD i undef)) {j : Nat} {x : Tr} (hx : xs[j]? = some x) : CellsAt M cs (j * sz) x := by
  simp only [Tr.wf] at hw
  have hws : ∀ z ∈ xs, z.wf ∧ z.size = sz := fun z hz => ⟨(wfL_iff _).1 hw.2 z hz, hw.1 z hz⟩
  have hy2 := hws x (List.mem_of_getElem? hx)
  have hyi : j < xs.length := (List.getElem?_eq_some_iff.1 hx).1
  refine ⟨hy2.1, ?_, fun i l hi => hl _ _ ?_⟩
  · rw [hs, hy2.2]
    have : (j + 1) * sz ≤ xs.length * sz := Nat.mul_le_mul_right _ (by omega)
    rw [Nat.add_mul, Nat.one_mul] at this
    rw [Nat.mul_comm sz]; exact this
  · simpa [Tr.leaves] using leavesL_elem sz xs hws _ _ hx i l hi

def EqIH (P : Program) (Θ : Tab) (M : Mem) (n : Nat) : Prop := ∀ (k : Nat) (t : TypeId) (x y : Tr) (b : Bool) (vx vy : Value), eqT Θ n t x y = some b → VR M x vx → VR M y vy →
  (Op.equalIn (n + k) t vx vy).run P M.w = .ok b M.w

include hΘ in
theorem eqFields_sound {n : Nat} (ih : EqIH P Θ M n) (k : Nat) (cs ds : Array Value) : ∀ (fs : List Field) (xs ys : List Tr) (b : Bool), (∀ f ∈ fs, f.name ≠ "_") →
    (∀ (j : Nat) x, xs[j]? = some x → ∃ f : Field, fs[j]? = some f ∧ CellsAt M cs f.offset x) → (∀ (j : Nat) y, ys[j]? = some y → ∃ f : Field, fs[j]? = some f ∧ CellsAt M ds f.offset y) →
    eqT.eqL Θ n (fs.map (·.type)) xs ys = some b → (Op.eqFields (n + k) cs ds fs).run P M.w = .ok b M.w
  | [], [], [], b, _, _, _, h => by
    simp only [List.map_nil, eqT.eqL, Option.some.injEq] at h
    subst h; simp [Op.eqFields]
  | f :: fs, x :: xs, y :: ys, b, hn, hx, hy, h => by
    simp only [List.map_cons, eqT.eqL] at h
    split at h
    · rename_i i b1 hi hb1
      split at h
      · rename_i hsz
        split at h
        · rename_i r hr
          obtain rfl := Option.some.inj h
          have hrest := eqFields_sound ih k cs ds fs xs ys r (fun g hg => hn g (by simp [hg])) (fun j x' hj => by simpa using hx (j + 1) x' (by simpa using hj)) (fun j y' hj => by simpa using hy (j + 1) y' (by simpa using hj)) hr
          obtain ⟨f1, hf1, cx⟩ := hx 0 x (by simp)
          obtain ⟨f2, hf2, cy⟩ := hy 0 y (by simp)
          simp only [List.getElem?_cons_zero, Option.some.injEq] at hf1 hf2
          subst hf1; subst hf2
          cases n with
          | zero => simp [eqT] at hb1
          | succ n =>
            obtain ⟨k1, k2, k3, k4⟩ := eqT_kind hi hb1
            obtain ⟨u, hru, hvu⟩ := part_sound (P := P) (M := M) hΘ hi cx.1 k3 hsz.1 k1 cx.2.1 cx.2.2
            obtain ⟨v, hrv, hvv⟩ := part_sound (P := P) (M := M) hΘ hi cy.1 k4 hsz.2 k2 cy.2.1 cy.2.2
            have he := ih k _ _ _ _ _ _ hb1 hvu hvv
            have hnm : f.name ≠ "_" := hn f (by simp)
            rw [Op.eqFields, if_pos hnm]
            simp only [Sem.run_bind, hru, hrv, he, Result.andThen_ok, Sem.run_ite]
            cases b1
            · simp
            · simp [hrest]
        · cases h
      · cases h
    · cases h
  | [], _ :: _, _, _, _, _, _, h => by simp [eqT.eqL] at h
  | [], [], _ :: _, _, _, _, _, h => by simp [eqT.eqL] at h
  | _ :: _, [], _, _, _, _, _, h => by simp [eqT.eqL] at h
  | _ :: _, _ :: _, [], _, _, _, _, h => by simp [eqT.eqL] at h

include hΘ in
theorem eqArr_sound {n : Nat} (ih : EqIH P Θ M n) (k : Nat) (e : TypeId) (sz : Nat) (cs ds : Array Value) : ∀ (m s : Nat) (xs ys : List Tr) (b : Bool),
    (∀ (j : Nat) x, xs[j]? = some x → CellsAt M cs ((s + j) * sz) x) → (∀ (j : Nat) y, ys[j]? = some y → CellsAt M ds ((s + j) * sz) y) →
    eqT.eqL Θ n (List.replicate m e) xs ys = some b →
    (forIn (m := Sem) (List.range' s m) (none, ()) fun i (_ : Option Bool × Unit) => do
      let a ← part e cs (i * sz)
      let c ← part e ds (i * sz)
      let r ← Op.equalIn (n + k) e a c
      if (!r) = true then pure (ForInStep.done (some false, ())) else pure (ForInStep.yield (none, ()))).run P M.w = .ok (if b then none else some false, ()) M.w
  | 0, s, [], [], b, _, _, h => by
    simp only [List.replicate_zero, eqT.eqL, Option.some.injEq] at h
    subst h; simp
  | m + 1, s, x :: xs, y :: ys, b, hx, hy, h => by
    simp only [List.replicate_succ, eqT.eqL] at h
    split at h
    · rename_i i b1 hi hb1
      split at h
      · rename_i hsz
        split at h
        · rename_i r hr
          obtain rfl := Option.some.inj h
          have hrest := eqArr_sound ih k e sz cs ds m (s + 1) xs ys r (fun j x' hj => by have := hx (j + 1) x' (by simpa using hj); rwa [show s + (j + 1) = s + 1 + j by omega] at this) (fun j y' hj => by have := hy (j + 1) y' (by simpa using hj); rwa [show s + (j + 1) = s + 1 + j by omega] at this) hr
          have cx := hx 0 x (by simp)
          have cy := hy 0 y (by simp)
          simp only [Nat.add_zero] at cx cy
          cases n with
          | zero => simp [eqT] at hb1
          | succ n =>
            obtain ⟨k1, k2, k3, k4⟩ := eqT_kind hi hb1
            obtain ⟨u, hru, hvu⟩ := part_sound (P := P) (M := M) hΘ hi cx.1 k3 hsz.1 k1 cx.2.1 cx.2.2
            obtain ⟨v, hrv, hvv⟩ := part_sound (P := P) (M := M) hΘ hi cy.1 k4 hsz.2 k2 cy.2.1 cy.2.2
            have he := ih k _ _ _ _ _ _ hb1 hvu hvv
            simp only [List.range'_succ, List.forIn_cons, Sem.run_bind, hru, hrv, he, Result.andThen_ok, Sem.run_ite]
            cases b1
            · simp
            · simpa using hrest
        · cases h
      · cases h
    · cases h
  | 0, _, _ :: _, _, _, _, _, h => by simp [eqT.eqL] at h
  | 0, _, [], _ :: _, _, _, _, h => by simp [eqT.eqL] at h
  | _ + 1, _, [], _, _, _, _, h => by simp [eqT.eqL, List.replicate_succ] at h
  | _ + 1, _, _ :: _, [], _, _, _, h => by simp [eqT.eqL, List.replicate_succ] at h

theorem field_at {fs : Array Field} {os : List Nat} (h : fs.toList.map (·.offset) = os) {j : Nat} (hj : j < os.length) : ∃ f : Field, fs.toList[j]? = some f ∧ os[j]? = some f.offset := by
  subst h
  have hj' : j < fs.toList.length := by simpa using hj
  exact ⟨fs.toList[j], List.getElem?_eq_getElem hj', by rw [List.getElem?_map, List.getElem?_eq_getElem hj']; rfl⟩

include hΘ in
theorem eqT_sound : ∀ n : Nat, EqIH P Θ M n
  | 0 => fun _ _ _ _ _ _ _ h => by simp [eqT] at h
  | n + 1 => fun k t x y b vx vy h hx hy => by
    have ih := eqT_sound n
    rw [show n + 1 + k = n + k + 1 by omega]
    simp only [eqT] at h
    split at h
    · cases h
    · rename_i i hi
      have hu := (hΘ t i hi).und
      split at h
      · rename_i a c hk
        rw [hk] at hu
        obtain rfl := Option.some.inj h
        obtain rfl := hx.bool_inv
        obtain rfl := hy.bool_inv
        simp [Op.equalIn, run_underlying hu]
      · rename_i k0 k1 a k2 c hk
        rw [hk] at hu
        split at h
        · rename_i hkk
          obtain rfl := Option.some.inj h
          obtain rfl := hx.int_inv
          obtain rfl := hy.int_inv
          simp [Op.equalIn, run_underlying hu, hkk]
        · cases h
      · rename_i a c hk
        rw [hk] at hu
        obtain rfl := Option.some.inj h
        obtain rfl := hx.str_inv
        obtain rfl := hy.str_inv
        simp [Op.equalIn, run_underlying hu]
      · rename_i offs tys sx ox xs sy oy ys hk
        rw [hk] at hu
        obtain ⟨fs, hu, hofs, htys, hst, hnm, _⟩ := hu
        split at h
        · rename_i ho
          obtain ⟨rfl, rfl⟩ := ho
          obtain ⟨cs, rfl, hwx, hsx, hlx⟩ := hx.agg_inv rfl
          obtain ⟨ds, rfl, hwy, hsy, hly⟩ := hy.agg_inv rfl
          have hfo : P.fieldsOf t = fs := by simp [Program.fieldsOf, hu]
          rw [run_equalIn_struct M.w (n + k) t cs ds (by rw [hfo]; exact hu) hst, hfo]
          rw [← htys] at h
          refine eqFields_sound hΘ ih k cs ds fs.toList xs ys b hnm (fun j x hj => ?_) (fun j y hj => ?_) h
          · have hlt : j < oy.length := by
              have h1 := offsOK_length _ _ _ _ (by simp only [Tr.wf] at hwx; exact hwx.1)
              have := (List.getElem?_eq_some_iff.1 hj).1
              omega
            obtain ⟨f, hf, hfo⟩ := field_at hofs hlt
            exact ⟨f, hf, cellsAt_node hwx hsx hlx hfo hj⟩
          · have hlt : j < oy.length := by
              have h1 := offsOK_length _ _ _ _ (by simp only [Tr.wf] at hwy; exact hwy.1)
              have := (List.getElem?_eq_some_iff.1 hj).1
              omega
            obtain ⟨f, hf, hfo⟩ := field_at hofs hlt
            exact ⟨f, hf, cellsAt_node hwy hsy hly hfo hj⟩
        · cases h
      · rename_i m e sx xs sy ys hk
        rw [hk] at hu
        split at h
        · rename_i ie hie
          split at h
          · rename_i hc
            obtain ⟨hsx0, hsy0, hlx0, hly0⟩ := hc
            obtain ⟨cs, rfl, hwx, hsx, hlx⟩ := hx.agg_inv rfl
            obtain ⟨ds, rfl, hwy, hsy, hly⟩ := hy.agg_inv rfl
            have hmain := eqArr_sound hΘ ih k e ie.size cs ds m 0 xs ys b (fun j x hj => by rw [Nat.zero_add, ← hsx0]; exact cellsAt_arr hwx hsx hlx hj) (fun j y hj => by rw [Nat.zero_add, ← hsy0]; exact cellsAt_arr hwy hsy hly hj) h
            simp only [Op.equalIn, Sem.run_bind, run_underlying hu.1, Result.andThen_ok, run_sizeOf hΘ hie, Std.Legacy.Range.forIn_eq_forIn_range', Std.Legacy.Range.size, Nat.sub_zero, Nat.add_one_sub_one, Nat.div_one]
            rw [hmain]
            cases b <;> simp
          · cases h
        · cases h
      · cases h

include hΘ in
theorem guard_agg {t : TypeId} {i : TyI} (hi : Θ t = some i) (ha : i.kind.isAgg = true) : P.eqGuardType P.depth t = false := by
  have hu := (hΘ t i hi).und
  cases hk : i.kind <;> rw [hk] at hu ha <;> simp [TyK.isAgg] at ha
  · exact hu.2
  · obtain ⟨fs, _, _, _, _, _, h⟩ := hu; exact h

theorem bits_run {op : BinOp} (h : op = .and ∨ op = .or ∨ op = .xor ∨ op = .andNot) (k : IntKind) (x y : Int) (w : World) : (Op.intBits op k x y).run P w = .ok (.int k (bitOf op k x y)) w := by
  rcases h with rfl | rfl | rfl | rfl <;> rfl

theorem equal_nils (d : Nat) {t e : TypeId} (hu : P.underlying t = some (.slice e)) : (Op.equalIn (d + 1) t (.slice none 0 0) (.slice none 0 0)).run P M.w = .ok true M.w := by
  simp [Op.equalIn, run_underlying hu]

include hΘ in
theorem aEq_sound {t : TypeId} {x y : Tr} {b : Bool} {vx vy : Value} (h : aEq Θ t x y = some b) (hx : VR M x vx) (hy : VR M y vy) :
    (Op.equal t vx vy).run P M.w = .ok b M.w ∧ ∀ op ox oy, (eqGuard op t ox oy vx vy).run P M.w = .ok () M.w := by
  have agg : ∀ {x y : Tr}, x.isAgg = true → y.isAgg = true → eqT Θ eqDepth t x y = some b → VR M x vx → VR M y vy →
      (Op.equal t vx vy).run P M.w = .ok b M.w ∧ ∀ op ox oy, (eqGuard op t ox oy vx vy).run P M.w = .ok () M.w := by
    intro x y hax hay h hx hy
    refine ⟨eqT_sound hΘ eqDepth 9980 t x y b vx vy h hx hy, fun op ox oy => ?_⟩
    obtain ⟨cs, rfl, _⟩ := hx.agg_inv hax
    obtain ⟨ds, rfl, _⟩ := hy.agg_inv hay
    cases hi : Θ t with
    | none => simp [eqDepth, eqT, hi] at h
    | some i =>
      have hk := (eqT_kind hi h).1
      exact run_eqGuard_agg M.w op t ox oy cs ds (guard_agg hΘ hi (hk ▸ hax))
  unfold aEq at h
  split at h
  · split at h
    · rename_i i hi
      split at h
      · rename_i hk
        have hu := (hΘ t i hi).und
        rw [hk] at hu
        obtain rfl := Option.some.inj h
        obtain rfl := hx.bool_inv
        obtain rfl := hy.bool_inv
        exact ⟨run_equalIn_bool' M.w 9999 t _ _ hu, fun op _ _ => by cases op <;> simp [eqGuard]⟩
      · cases h
    · cases h
  · split at h
    · rename_i i hi
      split at h
      · rename_i e hk
        have hu := (hΘ t i hi).und
        rw [hk] at hu
        obtain rfl := Option.some.inj h
        obtain rfl := hx.nils_inv
        obtain rfl := hy.nils_inv
        exact ⟨equal_nils 9999 hu, fun op _ _ => by cases op <;> simp [eqGuard]⟩
      · cases h
    · cases h
  · cases h
  · cases h
  · exact agg rfl rfl h hx hy
  · exact agg rfl rfl h hx hy
  · cases h

include hΘ in
theorem bin_sound {op : BinOp} {t : TypeId} {x y r : Tr} {vx vy : Value} (h : aBin Θ op t x y = some r) (hx : VR M x vx) (hy : VR M y vy) (ox oy : Operand) :
    ∃ u, (do eqGuard op t ox oy vx vy; binOp op t vx vy : Sem Value).run P M.w = .ok u M.w ∧ VR M r u := by
  unfold aBin at h
  split at h
  · rename_i k a k' b
    obtain rfl := hx.int_inv
    obtain rfl := hy.int_inv
    unfold aShift at h
    split at h
    · cases h
    · rename_i hb
      simp only [Option.some.injEq] at h
      subst h
      refine ⟨_, ?_, .int _ _⟩
      simp [eqGuard, binOp, Op.shift, hb]
  · rename_i k a k' b
    obtain rfl := hx.int_inv
    obtain rfl := hy.int_inv
    unfold aShift at h
    split at h
    · cases h
    · rename_i hb
      simp only [Option.some.injEq] at h
      subst h
      refine ⟨_, ?_, .int _ _⟩
      simp [eqGuard, binOp, Op.shift, hb]
  · rename_i k a k' b hn1 hn2
    obtain rfl := hx.int_inv
    obtain rfl := hy.int_inv
    split at h
    · rename_i hkk
      subst hkk
      unfold aInt at h
      split at h <;> first
        | (cases h; done)
        | (split at h <;> first | (cases h; done) | (rename_i hz; simp only [Option.some.injEq] at h; subst h; exact ⟨_, by simp [eqGuard, binOp, Op.intDiv, hz], .int _ _⟩))
        | (simp only [Option.some.injEq] at h; subst h
           first
            | (refine ⟨_, ?_, .int _ _⟩; simp [eqGuard, binOp, Op.intArith]; done)
            | (refine ⟨_, ?_, .int _ _⟩; simp [eqGuard, binOp]; exact bits_run (by simp) _ _ _ _)
            | (refine ⟨_, ?_, .bool _⟩; simp [eqGuard, binOp, Op.intCmp]; done))
    · cases h
  · rename_i a b
    obtain rfl := hx.str_inv
    obtain rfl := hy.str_inv
    unfold aStr at h
    split at h <;> first
      | (cases h; done)
      | (split at h <;> first | (cases h; done) | (rename_i hz; simp only [Option.some.injEq] at h; subst h; exact ⟨.string (a ++ b), by have e : Op.stringOp .add a b = (pure (.string (a ++ b)) : Sem Value) := by { unfold Op.stringOp; dsimp only; rw [if_neg hz] }; simp [eqGuard, binOp, e], .str _⟩))
      | (simp only [Option.some.injEq] at h; subst h; exact ⟨_, by simp [eqGuard, binOp, Op.stringOp], .bool _⟩)
  · rename_i hn1 hn2
    obtain ⟨b, hb, rfl⟩ := Option.map_eq_some_iff.1 h
    obtain ⟨he, hg⟩ := aEq_sound hΘ hb hx hy
    refine ⟨.bool b, ?_, .bool _⟩
    have hbin : binOp .eql t vx vy = (do pure (.bool (← Op.equal t vx vy)) : Sem Value) := by
      unfold aEq at hb
      split at hb <;> first
        | (obtain rfl := hx.bool_inv; obtain rfl := hy.bool_inv; rfl)
        | (obtain rfl := hx.nils_inv; obtain rfl := hy.nils_inv; rfl)
        | (cases hb; done)
        | (obtain ⟨cs, rfl, _⟩ := hx.agg_inv rfl; obtain ⟨ds, rfl, _⟩ := hy.agg_inv rfl; rfl)
    simp only [Sem.run_bind, hg, Result.andThen_ok, hbin, he, Sem.run_pure]
  · rename_i hn1 hn2
    obtain ⟨b, hb, rfl⟩ := Option.map_eq_some_iff.1 h
    obtain ⟨he, hg⟩ := aEq_sound hΘ hb hx hy
    refine ⟨.bool (!b), ?_, .bool _⟩
    have hbin : binOp .neq t vx vy = (do pure (.bool (!(← Op.equal t vx vy))) : Sem Value) := by
      unfold aEq at hb
      split at hb <;> first
        | (obtain rfl := hx.bool_inv; obtain rfl := hy.bool_inv; rfl)
        | (obtain rfl := hx.nils_inv; obtain rfl := hy.nils_inv; rfl)
        | (cases hb; done)
        | (obtain ⟨cs, rfl, _⟩ := hx.agg_inv rfl; obtain ⟨ds, rfl, _⟩ := hy.agg_inv rfl; rfl)
    simp only [Sem.run_bind, hg, Result.andThen_ok, hbin, he, Sem.run_pure]
  · cases h

theorem un_sound {op : UnOp} {x r : Tr} {v : Value} (h : aUn op x = some r) (hx : VR M x v) : ∃ u, (Op.unary op v).run P M.w = .ok u M.w ∧ VR M r u := by
  unfold aUn at h
  split at h
  · obtain rfl := Option.some.inj h
    obtain rfl := hx.bool_inv
    exact ⟨_, by simp [Op.unary], .bool _⟩
  · obtain rfl := Option.some.inj h
    obtain rfl := hx.int_inv
    exact ⟨_, by simp [Op.unary, Op.intArith], .int _ _⟩
  · obtain rfl := Option.some.inj h
    obtain rfl := hx.int_inv
    exact ⟨_, by simp only [Op.unary]; exact bits_run (by simp) _ _ _ _, .int _ _⟩
  · cases h

include hΘ in
theorem conv_sound {src dst : TypeId} {x r : Tr} {v : Value} (hs : ∃ i, Θ src = some i) (h : aConv Θ src dst x = some r) (hx : VR M x v) : ∃ u, (convert src dst v).run P M.w = .ok u M.w ∧ VR M r u := by
  obtain ⟨si, hsi⟩ := hs
  have hus : ∃ d, P.underlying src = some d := by
    have hu := (hΘ src si hsi).und
    cases hk : si.kind <;> rw [hk] at hu <;> first | exact ⟨_, hu⟩ | exact ⟨_, hu.1⟩ | (obtain ⟨fs, hu, _⟩ := hu; exact ⟨_, hu⟩) | (obtain ⟨_, _, _, hu⟩ := hu; exact ⟨_, hu⟩) | (obtain ⟨_, hu⟩ := hu; exact ⟨_, hu⟩)
  obtain ⟨sd, hus⟩ := hus
  unfold aConv at h
  split at h
  · rename_i i k n hi
    split at h
    · rename_i k' hk
      have hu := (hΘ dst i hi).und
      rw [hk] at hu
      obtain rfl := Option.some.inj h
      obtain rfl := hx.int_inv
      exact ⟨_, by simp [convert, run_underlying hus, run_underlying hu, Conv.intToInt], .int _ _⟩
    · cases h
  · rename_i i s hi
    split at h
    · rename_i hk
      have hu := (hΘ dst i hi).und
      rw [hk] at hu
      obtain rfl := Option.some.inj h
      obtain rfl := hx.str_inv
      exact ⟨.string s, by simp [convert, run_underlying hus, run_underlying hu], .str _⟩
    · cases h
  · cases h

end
end Go.Proofs.Ytnonimnhninafaa.Ab

/- Each operation yields what the plain functions say: new objects, stores. -/
namespace Go.Proofs.Ytnonimnhninafaa.Ab
open Go
set_option linter.unusedVariables false
set_option linter.unusedSimpArgs false

/-- Cells hold leaves. -/
def Holds (M : Mem) (ls : List Tr) (c : Array Value) : Prop := ∀ (i : Nat) l, ls[i]? = some l → VR M l (c.getD i undef)

theorem Holds.mono {M M' : Mem} (h : Mono M M') {ls : List Tr} {c : Array Value} (hc : Holds M ls c) : Holds M' ls c := fun i l hi => (hc i l hi).mono h

/-- A stretch of cells is overwritten. -/
theorem Holds.splice {M : Mem} {ls nl : List Tr} {c c' vs : Array Value} {k : Nat} (hc : Holds M ls c) (hn : Holds M nl vs) (hk : k ≤ ls.length) (hle : k + vs.size ≤ c.size) (hs : nl.length = vs.size)
    (hg : ∀ j, c'[j]? = if k ≤ j ∧ j < k + vs.size then vs[j - k]? else c[j]?) : Holds M (ls.take k ++ (nl ++ ls.drop (k + nl.length))) c' := by
  intro i l hi
  have e1 : (ls.take k).length = k := by simp; omega
  have hgd : c'.getD i undef = if k ≤ i ∧ i < k + vs.size then vs.getD (i - k) undef else c.getD i undef := by
    simp only [Array.getD_eq_getD_getElem?, hg i]
    split <;> rfl
  rw [hgd]
  by_cases h1 : i < k
  · rw [List.getElem?_append_left (by omega), List.getElem?_take, if_pos h1] at hi
    rw [if_neg (by omega)]
    exact hc i l hi
  · rw [List.getElem?_append_right (by omega), e1] at hi
    by_cases h2 : i - k < nl.length
    · rw [List.getElem?_append_left h2] at hi
      rw [if_pos (by omega)]
      exact hn _ _ hi
    · rw [List.getElem?_append_right (by omega), List.getElem?_drop] at hi
      rw [if_neg (by omega)]
      have := hc _ _ hi
      rwa [show k + nl.length + (i - k - nl.length) = i by omega] at this

theorem splice_get (c : Array Value) (vs : List Value) (k : Nat) (hle : k + vs.length ≤ c.size) (j : Nat) :
    ((c.toList.take k ++ vs ++ c.toList.drop (k + vs.length)).toArray)[j]? = if k ≤ j ∧ j < k + vs.length then vs.toArray[j - k]? else c[j]? := by
  have e1 : (c.toList.take k).length = k := by simp; omega
  simp only [List.getElem?_toArray, List.append_assoc]
  by_cases h1 : j < k
  · rw [List.getElem?_append_left (by omega), List.getElem?_take, if_pos h1, if_neg (by omega), Array.getElem?_toList]
  · rw [List.getElem?_append_right (by omega), e1]
    by_cases h2 : j - k < vs.length
    · rw [List.getElem?_append_left h2, if_pos (by omega)]
    · rw [List.getElem?_append_right (by omega), List.getElem?_drop, if_neg (by omega), Array.getElem?_toList]
      congr 1
      omega

theorem foldl_set (off : Nat) : ∀ (l : List Value) (k : Nat) (cs : Array Value), off + k + l.length ≤ cs.size →
    ((l.zipIdx k).foldl (fun cs (x : Value × Nat) => cs.setIfInBounds (off + x.2) x.1) cs).size = cs.size ∧
    ∀ j, ((l.zipIdx k).foldl (fun cs (x : Value × Nat) => cs.setIfInBounds (off + x.2) x.1) cs)[j]? = if off + k ≤ j ∧ j < off + k + l.length then l[j - (off + k)]? else cs[j]?
  | [], k, cs, _ => ⟨rfl, fun j => by simp only [List.zipIdx_nil, List.foldl_nil, List.length_nil]; rw [if_neg (by omega)]⟩
  | v :: l, k, cs, h => by
    simp only [List.length_cons] at h
    obtain ⟨h1, h2⟩ := foldl_set off l (k + 1) (cs.setIfInBounds (off + k) v) (by simp; omega)
    simp only [List.zipIdx_cons, List.foldl_cons]
    refine ⟨by rw [h1]; simp, fun j => ?_⟩
    rw [h2 j]
    simp only [List.length_cons]
    by_cases hj : j = off + k
    · subst hj
      rw [if_neg (by omega), if_pos (by omega)]
      simp only [Nat.sub_self, List.getElem?_cons_zero]
      rw [Array.getElem?_setIfInBounds, if_pos rfl, if_pos (by omega)]
    · by_cases h3 : off + k ≤ j ∧ j < off + k + (l.length + 1)
      · rw [if_pos (show off + (k + 1) ≤ j ∧ j < off + (k + 1) + l.length by omega), if_pos h3, show j - (off + k) = (j - (off + (k + 1))) + 1 by omega, List.getElem?_cons_succ]
      · rw [if_neg (show ¬ (off + (k + 1) ≤ j ∧ j < off + (k + 1) + l.length) by omega), if_neg h3, Array.getElem?_setIfInBounds, if_neg (by omega)]

/-- One step of the model's 'fill'. -/
theorem fill_step {place : Nat → Option (Nat × Nat)} {cells : Array Value} {i off size : Nat} {v : Value} {rest : List (Nat × Value)} (hp : place i = some (off, size)) (hs : v.cells.size = size) (hle : off + size ≤ cells.size) :
    ∃ cells', Instr.fill place cells ((i, v) :: rest) = Instr.fill place cells' rest ∧ cells'.size = cells.size ∧
      ∀ j, cells'[j]? = if off ≤ j ∧ j < off + size then v.cells[j - off]? else cells[j]? := by
  have hcond : (decide (v.cells.size ≠ size) || decide (off + v.cells.size > cells.size)) = false := by simp; omega
  refine ⟨v.cells.zipIdx.foldl (fun cs (x : Value × Nat) => cs.setIfInBounds (off + x.2) x.1) cells, ?_, ?_, ?_⟩
  · simp only [Instr.fill, hp, hcond, Bool.false_eq_true, if_false]
  · rw [← Array.foldl_toList, Array.toList_zipIdx]
    exact (foldl_set off v.cells.toList 0 cells (by simp; omega)).1
  · intro j
    rw [← Array.foldl_toList, Array.toList_zipIdx, (foldl_set off v.cells.toList 0 cells (by simp; omega)).2 j]
    simp only [Nat.add_zero, Array.length_toList, hs, Array.getElem?_toList]

inductive PartsR (M : Mem) : List (Nat × Tr) → List (Nat × Value) → Prop
  | nil : PartsR M [] []
  | cons {p : Nat × Tr} {q : Nat × Value} {ps : List (Nat × Tr)} {qs : List (Nat × Value)} (h1 : p.1 = q.1 ∧ VR M p.2 q.2) (h2 : PartsR M ps qs) : PartsR M (p :: ps) (q :: qs)

theorem fill_parts {M : Mem} (place : Nat → Option (Nat × Nat)) : ∀ (ps : List (Nat × Tr)) (qs : List (Nat × Value)) (t t' : Tr) (c : Array Value), PartsR M ps qs → setParts place ps t = some t' → t.wf → t.good = true → c.size = t.size → Holds M t.leaves c →
    ∃ c', Instr.fill place c qs = some c' ∧ t'.wf ∧ t'.good = true ∧ t'.isAgg = t.isAgg ∧ t'.size = t.size ∧ c'.size = t'.size ∧ Holds M t'.leaves c'
  | [], _, t, t', c, hp, h, hw, hg, hs, hh => by
    cases hp
    obtain rfl := Option.some.inj h
    exact ⟨c, rfl, hw, hg, rfl, rfl, hs, hh⟩
  | (i, x) :: ps, _, t, t', c, hp, h, hw, hg, hs, hh => by
    cases hp with
    | cons h1 h2 =>
    rename_i q qs
    obtain ⟨i', v⟩ := q
    obtain ⟨hi, hv⟩ := h1
    simp only at hi hv
    subst hi
    simp only [setParts] at h
    split at h
    · rename_i off size o u hpl hat
      split at h
      · rename_i hc
        obtain ⟨hxs, hus, ho, hxg⟩ := hc
        split at h
        · rename_i t1 hset
          obtain ⟨hvs, hvl⟩ := hv.cells hxg
          have hxw := good_wf hv hxg
          obtain ⟨t1', k, hset', hw1, hs1, hok, hle, hlv⟩ := set_leaves [i] t 0 o u x hw hat hxw (hxs.trans hus.symm)
          rw [hset] at hset'
          obtain rfl := Option.some.inj hset'
          have hk : k = off := by omega
          subst hk
          have hlen := leaves_length t hw
          have hxl := leaves_length x hxw
          obtain ⟨c1, hf1, hc1s, hc1⟩ := fill_step (rest := qs) hpl (hvs.trans hxs) (by omega : k + size ≤ c.size)
          have hh1 : Holds M t1.leaves c1 := by
            rw [hlv, show u.size = x.leaves.length by omega]
            refine Holds.splice (vs := v.cells) hh hvl (by omega) (by omega) (by omega) ?_
            intro j
            rw [hc1 j]
            simp only [hvs, hxs]
          have hg1 : t1.good = true := by
            cases t <;> simp [Tr.atF] at hat <;> (simp only [Tr.setF] at hset; split at hset <;> simp at hset <;> (subst hset; rfl))
          have ha1 : t1.isAgg = t.isAgg := by
            cases t <;> simp [Tr.atF] at hat <;> (simp only [Tr.setF] at hset; split at hset <;> simp at hset <;> (subst hset; rfl))
          obtain ⟨c', hf', r1, r2, r3, r4, r5, r6⟩ := fill_parts place ps qs t1 t' c1 h2 h hw1 hg1 (by omega) hh1
          exact ⟨c', hf1.trans hf', r1, r2, r3.trans ha1, r4.trans hs1, r5, r6⟩
        · cases h
      · cases h
    · cases h

theorem fill_elems {M : Mem} (sz : Nat) : ∀ (ps : List (Nat × Tr)) (qs : List (Nat × Value)) (xs xs' : List Tr) (c : Array Value), PartsR M ps qs → setElems sz ps xs = some xs' → (∀ x ∈ xs, x.wf ∧ x.size = sz) → c.size = xs.length * sz → Holds M (leavesL xs) c →
    ∃ c', Instr.fill (fun i => some (i * sz, sz)) c qs = some c' ∧ (∀ x ∈ xs', x.wf ∧ x.size = sz) ∧ xs'.length = xs.length ∧ c'.size = xs'.length * sz ∧ Holds M (leavesL xs') c'
  | [], _, xs, xs', c, hp, h, hw, hs, hh => by
    cases hp
    obtain rfl := Option.some.inj h
    exact ⟨c, rfl, hw, rfl, hs, hh⟩
  | (i, x) :: ps, _, xs, xs', c, hp, h, hw, hs, hh => by
    cases hp with
    | cons h1 h2 =>
    rename_i q qs
    obtain ⟨i', v⟩ := q
    obtain ⟨hi, hv⟩ := h1
    simp only at hi hv
    subst hi
    simp only [setElems] at h
    split at h
    · rename_i hc
      obtain ⟨hilt, hxs, hxg⟩ := hc
      obtain ⟨hvs, hvl⟩ := hv.cells hxg
      have hxw := good_wf hv hxg
      have hxl := leaves_length x hxw
      have hbd : (i + 1) * sz ≤ xs.length * sz := Nat.mul_le_mul_right _ (by omega)
      rw [Nat.add_mul, Nat.one_mul] at hbd
      obtain ⟨c1, hf1, hc1s, hc1⟩ := fill_step (place := fun i => some (i * sz, sz)) (cells := c) (rest := qs) (i := i) rfl (hvs.trans hxs) (by omega)
      have hget : xs[i]? = some xs[i] := List.getElem?_eq_getElem hilt
      have hpre := leavesL_pre sz xs hw i (by omega)
      have hh1 : Holds M (leavesL (xs.set i x)) c1 := by
        have e : leavesL (xs.set i x) = (leavesL xs).take (i * sz) ++ (x.leaves ++ (leavesL xs).drop (i * sz + x.leaves.length)) := by
          rw [leavesL_set xs i _ x hget, leavesL_take sz xs hw i (by omega), leavesL_drop sz xs hw (i + 1) (by omega), Nat.add_mul, Nat.one_mul, hxl, hxs]
        rw [e]
        refine Holds.splice (vs := v.cells) hh hvl ?_ (by omega) (by omega) ?_
        · rw [leavesL_length xs ((wfL_iff _).2 fun z hz => (hw z hz).1), sum_size_const sz xs (fun z hz => (hw z hz).2), Nat.mul_comm sz]; omega
        · intro j
          rw [hc1 j]
          simp only [hvs, hxs]
      have hw1 : ∀ z ∈ xs.set i x, z.wf ∧ z.size = sz := fun z hz => by
        rcases List.mem_or_eq_of_mem_set hz with hz' | rfl
        · exact hw z hz'
        · exact ⟨hxw, hxs⟩
      obtain ⟨c', hf', r1, r2, r3, r4⟩ := fill_elems sz ps qs (xs.set i x) xs' c1 h2 h hw1 (by simp; omega) hh1
      exact ⟨c', hf1.trans hf', r1, by simpa using r2, r3, r4⟩
    · cases h

theorem leavesL_replicate (n sz : Nat) (z : Tr) (hw : z.wf) (hs : z.size = sz) (h0 : 0 < sz) (j : Nat) (l : Tr) (h : (leavesL (List.replicate n z))[j]? = some l) : z.leaves[j % sz]? = some l ∧ j < n * sz := by
  have hws : ∀ x ∈ List.replicate n z, x.wf ∧ x.size = sz := fun x hx => by obtain rfl := List.eq_of_mem_replicate hx; exact ⟨hw, hs⟩
  have hlen : (leavesL (List.replicate n z)).length = n * sz := by
    rw [leavesL_length _ ((wfL_iff _).2 fun x hx => (hws x hx).1), sum_size_const sz _ (fun x hx => (hws x hx).2)]
    simp [Nat.mul_comm]
  have hj : j < n * sz := by rw [← hlen]; exact (List.getElem?_eq_some_iff.1 h).1
  have hd : j / sz < n := (Nat.div_lt_iff_lt_mul h0).2 hj
  have hm : j % sz < sz := Nat.mod_lt _ h0
  have hzl := leaves_length z hw
  have hmz : j % sz < z.leaves.length := by omega
  have h1 := leavesL_elem sz (List.replicate n z) hws (j / sz) z (by simp [hd]) (j % sz) _ (List.getElem?_eq_getElem hmz)
  rw [show j / sz * sz + j % sz = j from by rw [Nat.mul_comm]; exact Nat.div_add_mod j sz] at h1
  rw [h] at h1
  exact ⟨by rw [List.getElem?_eq_getElem hmz, Option.some.inj h1], hj⟩

theorem const_vr {M : Mem} {l : Tr} (h : l.isConst = true) : VR M l l.constVal := by
  cases l <;> simp [Tr.isConst] at h <;> constructor

theorem const_one {l : Tr} (h : l.isConst = true) : l.constVal.oneCell' = true := by
  cases l <;> simp [Tr.isConst] at h <;> rfl

section
variable {P : Program} {Θ : Tab} (hΘ : TabOK P Θ) {Φ : Base} {M : Mem}

include hΘ in
theorem zero_ok {t : TypeId} {i : TyI} (ht : Θ t = some i) (hg : i.zero.good = true) : i.zero.wf ∧ i.zero.size = i.size ∧ ∃ inf z, P.info? t = some inf ∧ inf.zero = some z ∧ inf.size = i.size ∧ inf.bytes = i.bytes ∧ z.cells.size = i.size ∧ ∀ M, Holds M i.zero.leaves z.cells := by
  obtain ⟨inf, h1, h2, h3, h4⟩ := (hΘ t i ht).info
  obtain ⟨hw, hs, _, hc, z, hz, hzc⟩ := h4 hg
  have hl := leaves_length _ hw
  refine ⟨hw, hs, inf, z, h1, hz, h2, h3, ?_, fun M j l hj => ?_⟩
  · rw [← Array.length_toList, hzc]; simp; omega
  · have : z.cells.toList[j]? = some l.constVal := by rw [hzc, List.getElem?_map, hj]; rfl
    rw [Array.getElem?_toList] at this
    rw [Array.getD_eq_getD_getElem?, this]
    exact const_vr (hc l (List.mem_of_getElem? hj))

/-- A new variable. -/
theorem newVar_sound (ok : MemOK M) (fr : Fr Φ M) (L : Nat) {t : TypeId} {x : Tr} {v : Value} (hw : x.wf) (hs : v.cells.size = x.size) (hl : Holds M x.leaves v.cells) :
    ∃ M', (newVar t v).run P M.w = .ok ⟨M.w.heap.size, 0, none⟩ M'.w ∧ M'.H = upd M.H L ((M.H L).1 + 1, .cells x) ∧ MemOK M' ∧ Fr Φ M' ∧ Mono M M' ∧ VR M' (.ptr L ((M.H L).1 + 1) [] 0) (.pointer (some ⟨M.w.heap.size, 0, none⟩)) := by
  have hm := Mem.allocAt_mono ok L 0 (.cells x) v.cells t
  refine ⟨M.allocAt L 0 (.cells x) v.cells t, ?_, rfl, Mem.allocAt_ok ok _ _ _ _ _ ?_, fr.allocAt _ _ _ _ _, hm, ?_⟩
  · simp [newVar, newRow, Mem.allocAt]
  · unfold ObjR
    simp only [Mem.allocAt, upd_same]
    exact ⟨hw, M.w.heap.size, 0, v.cells, t, rfl, heap_alloc_new _ _, hs, fun i l hi => (hl i l hi).mono hm⟩
  · refine .ptr rfl (by simp [Mem.allocAt]) fun _ => ⟨M.w.heap.size, 0, by simp [Mem.allocAt], rfl⟩

/-- A new row. -/
theorem newRow_sound (ok : MemOK M) (fr : Fr Φ M) (L : Nat) {e : TypeId} {sz n K : Nat} {xs : List Tr} {c : Array Value} (h0 : 0 < sz) (hw : ∀ x ∈ xs, x.wf ∧ x.size = sz) (hc : c.size = K * sz) (hn : xs.length = n) (hle : n ≤ K) (hK : K ≤ maxLen) (hl : Holds M (leavesL xs) c) :
    MemOK (M.allocAt L K (.row e sz xs) c e) ∧ Fr Φ (M.allocAt L K (.row e sz xs) c e) ∧ Mono M (M.allocAt L K (.row e sz xs) c e) ∧
      VR (M.allocAt L K (.row e sz xs) c e) (.own L ((M.H L).1 + 1) 0 n) (.slice (some ⟨M.w.heap.size, 0, none⟩) n K) := by
  have hm := Mem.allocAt_mono ok L K (.row e sz xs) c e
  refine ⟨Mem.allocAt_ok ok _ _ _ _ _ ?_, fr.allocAt _ _ _ _ _, hm, ?_⟩
  · unfold ObjR
    simp only [Mem.allocAt, upd_same]
    exact ⟨h0, hw, c, heap_alloc_new _ _, hc, by omega, hK, fun i l hi => (hl i l hi).mono hm⟩
  · refine .own rfl (by simp [Mem.allocAt]) fun e2 sz2 xs2 hd2 => ?_
    simp only [Mem.allocAt, upd_same, OwnV]
    simp only [Mem.allocAt, upd_same, Prod.mk.injEq, true_and, AObj.row.injEq] at hd2
    exact ⟨_, rfl, by omega, fun _ => by simp⟩

theorem setF_good {p : List Nat} {t new t' : Tr} (h : Tr.setF p new t = some t') (hn : new.good = true) : t'.good = true := by
  cases p with
  | nil => simp only [Tr.setF, Option.some.injEq] at h; subst h; exact hn
  | cons i p =>
    cases t <;> simp only [Tr.setF] at h <;> first | (cases h; done) | (split at h <;> first | (cases h; done) | (obtain ⟨y, _, rfl⟩ := Option.map_eq_some_iff.1 h; rfl))

include hΘ in
theorem store_sound (ok : MemOK M) (fr : Fr Φ M) {t : TypeId} {x new : Tr} {vx vn : Value} {f : Eff} (hx : VR M x vx) (hn : VR M new vn) (h : aStore Θ M.H t x new = some f) :
    ∃ M', (Instr.storeAt t vx vn).run P M.w = .ok () M'.w ∧ M'.H = f.heap M.H ∧ MemOK M' ∧ Fr Φ M' ∧ Mono M M' ∧ f.val = .any := by
  unfold aStore at h
  split at h
  · rename_i i u hi hat
    split at h
    · rename_i hc
      obtain ⟨hus, hns, hng⟩ := hc
      split at h
      · rename_i hput hp
        obtain rfl := Option.some.inj h
        obtain ⟨hcs, hcl⟩ := hn.cells hng
        have hone := hn.cells_one hng
        have hnw := good_wf hn hng
        have hnl := leaves_length new hnw
        unfold aPut at hp
        split at hp
        · rename_i d g p off
          unfold aAt at hat
          simp only at hat
          split at hat
          · rename_i hg
            obtain ⟨b, K, hb, rfl⟩ := hx.ptr_inv hg
            have ho := ok.objs d
            unfold ObjR at ho
            split at hp
            · rename_i p t0 hd
              rw [hd] at ho
              simp only [hd] at hat
              obtain ⟨hw, b', K', c, e, hb', hcb, hs, hl⟩ := ho
              rw [hb] at hb'
              simp only [Option.some.injEq, Prod.mk.injEq] at hb'
              obtain ⟨rfl, rfl⟩ := hb'
              split at hat
              · rename_i o u' hat'
                split at hat
                · rename_i hoff
                  obtain rfl := Option.some.inj hat
                  subst hoff
                  obtain ⟨t', hset, rfl⟩ := Option.map_eq_some_iff.1 hp
                  obtain ⟨t1, k, hset', hw1, hs1, hok, hle, hlv⟩ := set_leaves _ t0 0 o u' new hw hat' hnw (hns.trans hus.symm)
                  rw [hset] at hset'
                  obtain rfl := Option.some.inj hset'
                  have hk : o = k := by omega
                  subst hk
                  have hlive : Live M d := by unfold Live; rw [hd]; simp
                  have hst := run_storeCells_at P b o e vn.cells.toList 0 c M.w hcb (by simp; omega) (fun v hv => hone v (by simpa using hv))
                  simp only [Nat.add_zero] at hst
                  let c' : Array Value := (c.toList.take o ++ vn.cells.toList ++ c.toList.drop (o + vn.cells.toList.length)).toArray
                  have hcg := splice_get c vn.cells.toList o (by simp; omega)
                  have hcsz : c'.size = c.size := by simp [c']; omega
                  have hos : ObjSame (M.H d).2 (.cells t') := fun _ _ _ h => by cases h
                  have hm := Mem.writeAt_mono ok d b K (.cells t') c' hlive hb hos
                  refine ⟨M.writeAt d b (.cells t') c', ?_, ?_, Mem.writeAt_ok ok d b K _ _ hlive hb hos ?_, fr.writeAt d b K _ _ hlive hb, hm, rfl⟩
                  · simp only [Instr.storeAt, Instr.sureAddr, Sem.run_bind, Sem.run_pure, Result.andThen_ok, storeVar, run_sizeOf hΘ hi, hcs, hns, ne_eq, not_true_eq_false, if_false, hst]
                    rfl
                  · simp [Mem.writeAt, Eff.heap, hg]
                  · unfold ObjR
                    simp only [Mem.writeAt, upd_same]
                    refine ⟨hw1, b, K, c', e, hb, setRow_heap _ _ _ _ _ _ hcb, by omega, ?_⟩
                    have hh : Holds M t'.leaves c' := by
                      rw [hlv, show u'.size = new.leaves.length by omega]
                      have h0l := leaves_length t0 hw
                      refine Holds.splice (vs := vn.cells) hl hcl (by omega) (by omega) (by omega) ?_
                      intro j
                      have := hcg j
                      simpa [c'] using this
                    exact hh.mono hm
                · cases hat
              · cases hat
            · rename_i e sz xs i0 p hd
              rw [hd] at ho
              simp only [hd] at hat
              obtain ⟨h0, hws, ho⟩ := ho
              rw [hb] at ho
              obtain ⟨c, hcb, hs, hxK, hK, hl⟩ := ho
              split at hp
              · rename_i y hy
                simp only [hy] at hat
                split at hat
                · rename_i o u' hat'
                  split at hat
                  · rename_i hoff
                    obtain rfl := Option.some.inj hat
                    subst hoff
                    obtain ⟨y', hset, rfl⟩ := Option.map_eq_some_iff.1 hp
                    have hyw := hws y (List.mem_of_getElem? hy)
                    obtain ⟨y1, k, hset', hw1, hs1, hok, hle, hlv⟩ := set_leaves _ y (i0 * sz) o u' new hyw.1 hat' hnw (hns.trans hus.symm)
                    rw [hset] at hset'
                    obtain rfl := Option.some.inj hset'
                    have hilt : i0 < xs.length := (List.getElem?_eq_some_iff.1 hy).1
                    have hlive : Live M d := by unfold Live; rw [hd]; simp
                    have hbd : (i0 + 1) * sz ≤ K * sz := Nat.mul_le_mul_right _ (by omega)
                    rw [Nat.add_mul, Nat.one_mul] at hbd
                    have hst := run_storeCells_at P b o e vn.cells.toList 0 c M.w hcb (by simp; omega) (fun v hv => hone v (by simpa using hv))
                    simp only [Nat.add_zero] at hst
                    let c' : Array Value := (c.toList.take o ++ vn.cells.toList ++ c.toList.drop (o + vn.cells.toList.length)).toArray
                    have hcg := splice_get c vn.cells.toList o (by simp; omega)
                    have hcsz : c'.size = c.size := by simp [c']; omega
                    have hos : ObjSame (M.H d).2 (.row e sz (xs.set i0 y')) := fun e1 s1 x1 h => by rw [hd]; cases h; exact ⟨xs, rfl⟩
                    have hm := Mem.writeAt_mono ok d b K (.row e sz (xs.set i0 y')) c' hlive hb hos
                    refine ⟨M.writeAt d b (.row e sz (xs.set i0 y')) c', ?_, ?_, Mem.writeAt_ok ok d b K _ _ hlive hb hos ?_, fr.writeAt d b K _ _ hlive hb, hm, rfl⟩
                    · simp only [Instr.storeAt, Instr.sureAddr, Sem.run_bind, Sem.run_pure, Result.andThen_ok, storeVar, run_sizeOf hΘ hi, hcs, hns, ne_eq, not_true_eq_false, if_false, hst]
                      rfl
                    · simp [Mem.writeAt, Eff.heap, hg]
                    · unfold ObjR
                      simp only [Mem.writeAt, upd_same]
                      refine ⟨h0, fun z hz => ?_, ?_⟩
                      · rcases List.mem_or_eq_of_mem_set hz with hz' | rfl
                        · exact hws z hz'
                        · exact ⟨hw1, hs1.trans hyw.2⟩
                      · rw [hb]
                        refine ⟨c', setRow_heap _ _ _ _ _ _ hcb, by omega, by simpa using hxK, hK, ?_⟩
                        have hyl := leaves_length y hyw.1
                        have hpre := leavesL_pre sz xs hws i0 (by omega)
                        have hh : Holds M (leavesL (xs.set i0 y')) c' := by
                          have e0 : leavesL (xs.set i0 y') = (leavesL xs).take o ++ (new.leaves ++ (leavesL xs).drop (o + new.leaves.length)) := by
                            rw [leavesL_set xs i0 y y' hy, hlv, leavesL_split xs i0 y hy]
                            have e1 : (leavesL (xs.take i0) ++ (y.leaves ++ leavesL (xs.drop (i0 + 1)))).take o = leavesL (xs.take i0) ++ y.leaves.take k := by
                              rw [List.take_append, hpre, List.take_of_length_le (by omega), show o - i0 * sz = k by omega, List.take_append_of_le_length (by omega)]
                            have e2 : (leavesL (xs.take i0) ++ (y.leaves ++ leavesL (xs.drop (i0 + 1)))).drop (o + new.leaves.length) = y.leaves.drop (k + u'.size) ++ leavesL (xs.drop (i0 + 1)) := by
                              rw [List.drop_append, hpre, List.drop_of_length_le (by omega), show o + new.leaves.length - i0 * sz = k + u'.size by omega, List.nil_append, List.drop_append_of_le_length (by omega)]
                            rw [e1, e2]
                            simp [List.append_assoc]
                          rw [e0]
                          refine Holds.splice (vs := vn.cells) hl hcl ?_ (by omega) (by omega) ?_
                          · rw [leavesL_length xs ((wfL_iff _).2 fun z hz => (hws z hz).1), sum_size_const sz xs (fun z hz => (hws z hz).2), Nat.mul_comm sz]
                            have : (i0 + 1) * sz ≤ xs.length * sz := Nat.mul_le_mul_right _ (by omega)
                            rw [Nat.add_mul, Nat.one_mul] at this
                            omega
                          · intro j
                            have := hcg j
                            simpa [c'] using this
                        exact hh.mono hm
                  · cases hat
                · cases hat
              · cases hp
            · cases hp
          · cases hat
        · cases hp
      · cases h
    · cases h
  · cases h

end
end Go.Proofs.Ytnonimnhninafaa.Ab

/- Each operation yields what the plain functions say: building, appending, copying; all operations. -/
namespace Go.Proofs.Ytnonimnhninafaa.Ab
open Go
set_option linter.unusedVariables false
set_option linter.unusedSimpArgs false

section
variable {P : Program} {Θ : Tab} (hΘ : TabOK P Θ) {Φ : Base} {M : Mem}

theorem parts_of {rd : Operand → Tr} {ρ : Operand → Value} (hr : ∀ x, VR M (rd x) (ρ x)) : ∀ l : List (Nat × Operand), PartsR M (l.map fun p => (p.1, rd p.2)) (l.map fun (i, x) => (i, ρ x))
  | [] => .nil
  | p :: l => .cons ⟨rfl, hr _⟩ (parts_of hr l)

include hΘ in
theorem places_run (w : World) : ∀ (fs : List Field) (szs : List Nat), sizesOf Θ (fs.map (·.type)) = some szs →
    (fs.mapM (fun f => do pure (f.offset, ← sizeOf f.type)) : Sem (List (Nat × Nat))).run P w = .ok ((fs.map (·.offset)).zip szs) w
  | [], szs, h => by
    simp only [List.map_nil, sizesOf, Option.some.injEq] at h
    subst h; simp
  | f :: fs, szs, h => by
    simp only [List.map_cons, sizesOf] at h
    split at h
    · rename_i i l hi hl
      obtain rfl := Option.some.inj h
      have ih := places_run w fs l hl
      simp only [List.mapM_cons, Sem.run_bind, run_sizeOf hΘ hi, Result.andThen_ok, Sem.run_pure, ih, List.map_cons, List.zip_cons_cons]
    · cases h

theorem place_fn (offs szs : List Nat) : (fun (j : Nat) => ((offs.zip szs).toArray)[j]?) = placeOf offs szs := by
  funext j
  unfold placeOf
  rw [List.getElem?_toArray, List.zip_eq_zipWith, List.getElem?_zipWith]
  cases offs[j]? <;> cases szs[j]? <;> rfl

include hΘ in
theorem build_sound {t : TypeId} {i : TyI} (ht : Θ t = some i) (hg : i.zero.good = true) {rd : Operand → Tr} {ρ : Operand → Value} (hr : ∀ x, VR M (rd x) (ρ x)) (ps : Array (Nat × Operand)) {val : Tr}
    (h : aBuild Θ i (ps.toList.map fun p => (p.1, rd p.2)) = some val) :
    ∃ v, (Instr.build t (ps.map fun (i, x) => (i, ρ x))).run P M.w = .ok v M.w ∧ VR M val v := by
  obtain ⟨hzw, hzs, inf, z, h1, hz, h2, h3, hzc, hzh⟩ := zero_ok hΘ ht hg
  have hzv : (zeroValue t).run P M.w = .ok z M.w := by simp [zeroValue, typeInfo, h1, hz]
  have hu := (hΘ t i ht).und
  obtain ⟨inf', h1', _, _, h4⟩ := (hΘ t i ht).info
  have hza := (h4 hg).2.2.1
  have hps : (ps.map fun (i, x) => (i, ρ x)).toList = ps.toList.map fun (i, x) => (i, ρ x) := by simp
  unfold aBuild at h
  split at h
  · rename_i offs tys hk
    rw [hk] at hu hza
    obtain ⟨fs, hu, hofs, htys, _⟩ := hu
    split at h
    · rename_i szs hsz
      rw [← htys] at hsz
      obtain ⟨c', hf, hw', hg', ha', hs', hcs', hh'⟩ := fill_parts _ _ _ _ _ z.cells (parts_of hr ps.toList) h hzw hg (by omega) (hzh M)
      refine ⟨.agg c', ?_, .agg (by rw [ha', hza]; rfl) hw' (by omega) hh'⟩
      have hpl := places_run (P := P) hΘ M.w fs.toList szs hsz
      rw [hofs] at hpl
      simp only [Instr.build, Sem.run_bind, hzv, Result.andThen_ok, run_underlying hu, Array.mapM_eq_mapM_toList, Sem.run_map, hpl, hps]
      rw [place_fn, hf]
      rfl
    · cases h
  · rename_i m e hk
    rw [hk] at hu hza
    split at h
    · rename_i ei hei
      obtain ⟨c', hf, hw', hg', ha', hs', hcs', hh'⟩ := fill_parts _ _ _ _ _ z.cells (parts_of hr ps.toList) h hzw hg (by omega) (hzh M)
      refine ⟨.agg c', ?_, .agg (by rw [ha', hza]; rfl) hw' (by omega) hh'⟩
      simp only [Instr.build, Sem.run_bind, hzv, Result.andThen_ok, run_underlying hu.1, run_sizeOf hΘ hei, hps]
      rw [hf]
      rfl
    · cases h
  · cases h

theorem zeros_hold {e : TypeId} {ei : TyI} {z : Value} (n : Nat) (h0 : 0 < ei.size) (hw : ei.zero.wf) (hs : ei.zero.size = ei.size) (hzc : z.cells.size = ei.size) (hzh : Holds M ei.zero.leaves z.cells) :
    Holds M (leavesL (List.replicate n ei.zero)) ((Array.range (n * ei.size)).map (z.cells[· % z.cells.size]!)) := by
  intro j l hj
  obtain ⟨h1, h2⟩ := leavesL_replicate n ei.size ei.zero hw hs h0 j l hj
  have h3 := hzh _ _ h1
  have h4 : j % ei.size < z.cells.size := by rw [hzc]; exact Nat.mod_lt _ h0
  have e1 : ((Array.range (n * ei.size)).map (z.cells[· % z.cells.size]!)).getD j undef = z.cells.getD (j % ei.size) undef := by
    simp only [Array.getD_eq_getD_getElem?, Array.getElem?_map, Array.getElem?_range, h2, if_true, Option.map_some, Option.getD_some, hzc]
    rw [getElem!_pos z.cells (j % ei.size) h4, Array.getElem?_eq_getElem h4]
    rfl
  rw [e1]
  exact h3

include hΘ in
theorem buildSlice_sound (ok : MemOK M) (fr : Fr Φ M) (L : Nat) {t e : TypeId} {i ei : TyI} (ht : Θ t = some i) (hk : i.kind = .slice e) (he : Θ e = some ei) (hg : ei.zero.good = true) (h0 : 0 < ei.size) (len : Nat) (hlen : len * ei.size ≤ 2 ^ 24)
    {rd : Operand → Tr} {ρ : Operand → Value} (hr : ∀ x, VR M (rd x) (ρ x)) (ps : Array (Nat × Operand)) {xs : List Tr} (h : setElems ei.size (ps.toList.map fun p => (p.1, rd p.2)) (List.replicate len ei.zero) = some xs) :
    ∃ v M', (Instr.buildSlice t len (ps.map fun (i, x) => (i, ρ x))).run P M.w = .ok v M'.w ∧ M'.H = upd M.H L ((M.H L).1 + 1, .row e ei.size xs) ∧ MemOK M' ∧ Fr Φ M' ∧ Mono M M' ∧ VR M' (.own L ((M.H L).1 + 1) 0 len) v := by
  obtain ⟨hzw, hzs, inf, z, h1, hz, h2, h3, hzc, hzh⟩ := zero_ok hΘ he hg
  have hzv : (zeroValue e).run P M.w = .ok z M.w := by simp [zeroValue, typeInfo, h1, hz]
  have hu := (hΘ t i ht).und
  rw [hk] at hu
  have hps : (ps.map fun (i, x) => (i, ρ x)).toList = ps.toList.map fun (i, x) => (i, ρ x) := by simp
  have hws : ∀ x ∈ List.replicate len ei.zero, x.wf ∧ x.size = ei.size := fun x hx => by obtain rfl := List.eq_of_mem_replicate hx; exact ⟨hzw, hzs⟩
  obtain ⟨c', hf, hw', hl', hcs', hh'⟩ := fill_elems ei.size _ _ _ _ ((Array.range (len * ei.size)).map (z.cells[· % z.cells.size]!)) (parts_of hr ps.toList) h hws (by simp) (zeros_hold (e := e) len h0 hzw hzs hzc (hzh M))
  have hl2 : xs.length = len := by simpa using hl'
  have hmax : len ≤ maxLen := by
    have : len * 1 ≤ len * ei.size := Nat.mul_le_mul_left _ h0
    simp only [maxLen]; omega
  obtain ⟨ok', fr', hm, hv⟩ := newRow_sound ok fr L (e := e) (K := len) h0 hw' (by rw [hcs', hl2]) hl2 (Nat.le_refl _) hmax hh'
  refine ⟨_, _, ?_, rfl, ok', fr', hm, hv⟩
  have hn : ¬ (len * ei.size > 2 ^ 24) := by omega
  by_cases hz0 : len * ei.size = 0
  · have hbase : ((Array.range (len * ei.size)).map (z.cells[· % z.cells.size]!)) = (#[] : Array Value) := by rw [hz0]; simp
    rw [hbase] at hf
    simp only [Instr.buildSlice, Sem.run_bind, run_underlying hu, Result.andThen_ok, run_sizeOf hΘ he, hn, if_false, hz0, if_true, Sem.run_pure, hps]
    simp only [Array.range_zero', Array.map_empty, hf]
    simp [newRow, Mem.allocAt]
  · simp only [Instr.buildSlice, Sem.run_bind, run_underlying hu, Result.andThen_ok, run_sizeOf hΘ he, hn, if_false, hz0, hzv, Sem.run_pure, hps]
    simp only [hf]
    simp [newRow, Mem.allocAt]

include hΘ in
theorem makeSlice_sound (ok : MemOK M) (fr : Fr Φ M) (L : Nat) {t : TypeId} {x y : Tr} {vx vy : Value} {f : Eff} (hx : VR M x vx) (hy : VR M y vy) (h : aMakeSlice Θ M.H L t x y = some f) :
    ∃ v M', (Instr.makeSlice t vx vy).run P M.w = .ok v M'.w ∧ M'.H = f.heap M.H ∧ MemOK M' ∧ Fr Φ M' ∧ Mono M M' ∧ VR M' f.val v := by
  unfold aMakeSlice at h
  split at h
  · rename_i ti k1 n k2 m hti
    obtain rfl := hx.int_inv
    obtain rfl := hy.int_inv
    split at h
    · rename_i e hk
      have hu := (hΘ t ti hti).und
      rw [hk] at hu
      split at h
      · rename_i ei hei
        split at h
        · rename_i hc
          obtain ⟨hg, h0, hn0, rfl, hb, h63⟩ := hc
          obtain rfl := Option.some.inj h
          obtain ⟨hzw, hzs, inf, z, h1, hz, h2, h3, hzc, hzh⟩ := zero_ok hΘ hei hg
          have hrun := run_make (P := P) M.w t e inf z hu h1 hz k1 k2 n n hn0 (Int.le_refl _) (by rw [h3]; exact hb) h63
          have hws : ∀ x ∈ List.replicate n.toNat ei.zero, x.wf ∧ x.size = ei.size := fun x hx => by obtain rfl := List.eq_of_mem_replicate hx; exact ⟨hzw, hzs⟩
          have hh := zeros_hold (M := M) (e := e) n.toNat h0 hzw hzs hzc (hzh M)
          obtain ⟨ok', fr', hm, hv⟩ := newRow_sound ok fr L (e := e) (K := n.toNat) (n := n.toNat) h0 hws (c := madeCells z.cells (n.toNat * ei.size)) (by simp [madeCells]) (by simp) (Nat.le_refl _) (by simp only [maxLen]; omega) hh
          refine ⟨_, _, ?_, rfl, ok', fr', hm, hv⟩
          rw [hrun, h2]
          rfl
        · cases h
      · cases h
    · cases h
  · cases h

/-- What a slice shows, as cells. -/
theorem elems_sound (ok : MemOK M) {sz : Nat} {y : Tr} {vy : Value} {ys : List Tr} (hy : VR M y vy) (h : aElems M.H sz y = some ys) :
    ∃ (a : Option Addr) (cap : Nat) (news : List Value), vy = .slice a ys.length cap ∧ ys.length ≤ cap ∧ (a = none → cap = 0) ∧ (∀ x ∈ ys, x.wf ∧ x.size = sz) ∧ news.length = ys.length * sz ∧
      (∀ (j : Nat) u, news[j]? = some u → ∃ ad, a = some ad ∧ M.w.cell? (ad.add j) = some u) ∧ Holds M (leavesL ys) news.toArray := by
  unfold aElems at h
  split at h
  · obtain rfl := Option.some.inj h
    obtain rfl := hy.nils_inv
    exact ⟨none, 0, [], rfl, by simp, by simp, by simp, by simp, by simp, by intro i l hi; simp [leavesL] at hi⟩
  · rename_i s xs
    split at h
    · rename_i hs
      obtain rfl := Option.some.inj h
      subst hs
      obtain ⟨a, cap, vs, rfl, hcap, hnil, hw, hI, hc, hl⟩ := hy.sl_inv
      have hlen : (leavesL xs).length = xs.length * s := by rw [leavesL_length xs ((wfL_iff _).2 fun z hz => (hw z hz).1), sum_size_const s xs (fun z hz => (hw z hz).2), Nat.mul_comm]
      refine ⟨a, cap, (List.range (xs.length * s)).map vs, rfl, hcap, hnil, hw, by simp, fun j u hj => ?_, fun j l hj => ?_⟩
      · have hjl : j < xs.length * s := by have := (List.getElem?_eq_some_iff.1 hj).1; simpa using this
        rw [List.getElem?_map, List.getElem?_range hjl] at hj
        simp only [Option.map_some, Option.some.injEq] at hj
        subst hj
        exact hc j _ (List.getElem?_eq_getElem (by omega))
      · have hjl : j < xs.length * s := by have := (List.getElem?_eq_some_iff.1 hj).1; omega
        have := hl j l hj
        simpa [Array.getD_eq_getD_getElem?, hjl] using this
    · cases h
  · rename_i d g lo len
    split at h
    · rename_i g' e s xs hd
      split at h
      · rename_i hc
        obtain ⟨rfl, rfl, hle⟩ := hc
        obtain rfl := Option.some.inj h
        have ho := hy.own_inv hd
        have hob := ok.objs d
        unfold ObjR at hob
        rw [hd] at hob
        obtain ⟨h0, hws, hob⟩ := hob
        have hll : ((xs.drop lo).take len).length = len := by simp; omega
        have hws' : ∀ x ∈ (xs.drop lo).take len, x.wf ∧ x.size = s := fun x hx => hws x (List.mem_of_mem_drop (List.mem_of_mem_take hx))
        unfold OwnV at ho
        cases hb : M.β d with
        | none =>
          rw [hb] at ho hob
          obtain ⟨rfl, rfl, rfl⟩ := ho
          simp only at hob
          subst hob
          exact ⟨none, 0, [], by simp, by simp, by simp, by simp, by simp, by simp, by intro i l hi; simp [leavesL] at hi⟩
        | some bK =>
          obtain ⟨b, K⟩ := bK
          rw [hb] at ho hob
          obtain ⟨ad, rfl, hK, had⟩ := ho
          obtain ⟨c, hcb, hcs, hxK, hKm, hl⟩ := hob
          have hlv : leavesL ((xs.drop lo).take len) = ((leavesL xs).drop (lo * s)).take (len * s) := by
            rw [leavesL_take s _ (fun x hx => hws x (List.mem_of_mem_drop hx)) _ (by simp; omega), leavesL_drop s xs hws lo (by omega)]
          have hbd : (lo + len) * s ≤ K * s := Nat.mul_le_mul_right _ hK
          rw [Nat.add_mul] at hbd
          refine ⟨some ad, K - lo, (c.toList.drop (lo * s)).take (len * s), by rw [hll], by rw [hll]; omega, by simp, hws', by rw [hll]; simp; omega, fun j u hj => ?_, fun j l hj => ?_⟩
          · have hjl : j < len * s := by have := (List.getElem?_eq_some_iff.1 hj).1; simp at this; omega
            rw [List.getElem?_take, if_pos hjl, List.getElem?_drop, Array.getElem?_toList] at hj
            have hlt : lo < K := by
              rcases Nat.lt_or_ge lo K with h' | h'
              · exact h'
              · have : len = 0 := by omega
                subst this
                simp at hjl
            refine ⟨ad, rfl, ?_⟩
            rw [had hlt, add_mk, cell_of_row M.w b _ c e (0, 0) hcb]
            exact hj
          · rw [hlv, List.getElem?_take] at hj
            split at hj
            · rename_i hjl
              rw [List.getElem?_drop] at hj
              have := hl _ _ hj
              have hbound : lo * s + j < c.size := by omega
              simp only [Array.getD_eq_getD_getElem?, List.getElem?_toArray, List.getElem?_take, if_pos hjl, List.getElem?_drop, Array.getElem?_toList] at this ⊢
              exact this
            · cases hj
      · cases h
    · cases h
  · cases h

theorem holds_append {xs ys : List Tr} {vs ws : List Value} (hx : Holds M (leavesL xs) vs.toArray) (hy : Holds M (leavesL ys) ws.toArray) (hl : (leavesL xs).length = vs.length) (hl2 : (leavesL ys).length = ws.length) (zs : List Value) :
    Holds M (leavesL (xs ++ ys)) (vs ++ ws ++ zs).toArray := by
  intro i l hi
  rw [leavesL_append] at hi
  simp only [Array.getD_eq_getD_getElem?, List.getElem?_toArray, List.append_assoc]
  by_cases h1 : i < vs.length
  · rw [List.getElem?_append_left (by omega)] at hi
    rw [List.getElem?_append_left h1]
    have := hx i l hi
    simpa [Array.getD_eq_getD_getElem?] using this
  · rw [List.getElem?_append_right (by omega)] at hi
    rw [List.getElem?_append_right (by omega)]
    have h2 := hy _ _ hi
    have h3 : i - vs.length < ws.length := by
      have := (List.getElem?_eq_some_iff.1 hi).1
      omega
    rw [List.getElem?_append_left h3]
    rw [hl] at h2
    simpa [Array.getD_eq_getD_getElem?] using h2

/-- Another block for a label, the world having drawn. -/
theorem grow_sound (ok : MemOK M) (fr : Fr Φ M) (L : Nat) {e : TypeId} {sz n K : Nat} {xs : List Tr} {c : Array Value} (h0 : 0 < sz) (hw : ∀ x ∈ xs, x.wf ∧ x.size = sz) (hc : c.size = K * sz) (hn : xs.length = n) (hle : n ≤ K) (hK : K ≤ maxLen) (hl : Holds M (leavesL xs) c) :
    ∃ M', M'.w = M.w.drew.alloc (.cells c e) ∧ M'.H = upd M.H L ((M.H L).1 + 1, .row e sz xs) ∧ MemOK M' ∧ Fr Φ M' ∧ Mono M M' ∧ VR M' (.own L ((M.H L).1 + 1) 0 n) (.slice (some ⟨M.w.heap.size, 0, none⟩) n K) := by
  obtain ⟨a, b, c', d⟩ := newRow_sound (M := M.drew) (Mem.drew_ok ok) fr.drew L (e := e) (K := K) h0 hw hc hn hle hK (hl.mono M.drew_mono)
  exact ⟨M.drew.allocAt L K (.row e sz xs) c e, rfl, rfl, a, b, M.drew_mono.trans c', d⟩

/-- A label that holds no block: an empty row. -/
theorem empty_sound (ok : MemOK M) (fr : Fr Φ M) (L : Nat) (e : TypeId) (sz : Nat) (h0 : 0 < sz) :
    ∃ M', M'.w = M.w ∧ M'.H = upd M.H L ((M.H L).1 + 1, .row e sz []) ∧ MemOK M' ∧ Fr Φ M' ∧ Mono M M' ∧ VR M' (.own L ((M.H L).1 + 1) 0 0) (.slice none 0 0) := by
  let M' : Mem := { w := M.w, Im := M.Im, β := upd M.β L none, H := upd M.H L ((M.H L).1 + 1, .row e sz []) }
  have hm : Mono M M' := ⟨fun _ h => h, fun _ _ => rfl, fun d => by
      simp only [M', upd]; split
      · rename_i h; subst h; simp
      · exact Nat.le_refl _, fun d h => by
      simp only [M', upd] at h ⊢
      by_cases hd : d = L
      · subst hd; simp at h
      · simp only [hd, if_false]; exact ⟨trivial, fun _ _ xs hx => ⟨xs, hx⟩⟩⟩
  have hlive : ∀ d b K, Live M' d → M'.β d = some (b, K) → d ≠ L ∧ Live M d ∧ M.β d = some (b, K) := by
    intro d b K h1 h2
    by_cases hd : d = L
    · subst hd; simp [M'] at h2
    · simp only [Live, M', upd, hd, if_false] at h1 h2; exact ⟨hd, h1, h2⟩
  refine ⟨M', rfl, rfl, ⟨fun d => ?_, fun d d' b K K' hne h1 h2 e1 e2 => ?_, fun d b K h1 h2 => ?_, ok.lt⟩, ⟨fr.os, fr.tape, fr.output, fr.size, fr.blk, fun d b K h1 h2 => ?_, fr.im0, fr.im1⟩, hm, ?_⟩
  · by_cases hd : d = L
    · subst hd
      unfold ObjR
      simp only [M', upd_same]
      exact ⟨h0, by simp, trivial⟩
    · exact (ok.objs d).mono hm (by simp [M', upd, hd]) (fun _ _ _ _ => rfl)
  · obtain ⟨_, a1, a2⟩ := hlive d b K h1 e1
    obtain ⟨_, b1, b2⟩ := hlive d' b K' h2 e2
    exact ok.inj d d' b K K' hne a1 b1 a2 b2
  · obtain ⟨_, a1, a2⟩ := hlive d b K h1 h2
    exact ok.sep d b K a1 a2
  · obtain ⟨_, a1, a2⟩ := hlive d b K h1 h2
    exact fr.own d b K a1 a2
  · refine .own rfl (by simp [M']) fun e2 sz2 xs2 hd2 => ?_
    simp [M', OwnV]

include hΘ in
theorem append_sound (ok : MemOK M) (fr : Fr Φ M) (L : Nat) {t u ty : TypeId} {x y : Tr} {vx vy : Value} {f : Eff} (hx : VR M x vx) (hy : VR M y vy) (h : aAppend Θ M.H L t u x y = some f) :
    ∃ v M', (Builtin.append_ #[t, u] ty #[vx, vy]).run P M.w = .ok v M'.w ∧ M'.H = f.heap M.H ∧ MemOK M' ∧ Fr Φ M' ∧ Mono M M' ∧ VR M' f.val v := by
  unfold aAppend at h
  split at h
  · rename_i htu
    subst htu
    split at h
    · rename_i ti hti
      split at h
      · rename_i e hk
        have hu := (hΘ t ti hti).und
        rw [hk] at hu
        split at h
        · rename_i ei hei
          split at h
          · rename_i ys hys
            split at h
            · rename_i hc
              obtain ⟨hg, h0⟩ := hc
              obtain ⟨hzw, hzs, inf, z, h1, hz, h2, h3, hzc, hzh⟩ := zero_ok hΘ hei hg
              obtain ⟨a, cap, news, rfl, hcap, hnil, hyw, hnl, hnews, hnh⟩ := elems_sound ok hy hys
              have hyl : (leavesL ys).length = news.length := by rw [hnl, leavesL_length ys ((wfL_iff _).2 fun z hz => (hyw z hz).1), sum_size_const ei.size ys (fun z hz => (hyw z hz).2), Nat.mul_comm]
              have hone : ∀ v ∈ news, v.oneCell' = true := by
                intro v hv
                obtain ⟨j, hj, rfl⟩ := List.mem_iff_getElem.1 hv
                have hjl : j < (leavesL ys).length := by omega
                have := hnh j _ (List.getElem?_eq_getElem hjl)
                obtain ⟨lw, ll⟩ := leavesL_wf ys ((wfL_iff _).2 fun z hz => (hyw z hz).1) _ (List.getElem_mem hjl)
                have e1 : news.toArray.getD j undef = news[j] := by simp [Array.getD_eq_getD_getElem?, hj]
                rw [e1] at this
                exact this.one lw ll
              have hempty : ys.length = 0 → news = [] := fun hz => List.eq_nil_of_length_eq_zero (by rw [hnl, hz]; simp)
              have hadd : ∀ ad, a = some ad → ∀ (j : Nat) v, news[j]? = some v → M.w.cell? (ad.add j) = some v := fun ad ha j v hj => by
                obtain ⟨ad', e1, e2⟩ := hnews j v hj
                rw [ha] at e1
                obtain rfl := Option.some.inj e1
                exact e2
              -- nothing of the row's own yet
              have fresh : ∀ (L' : Nat), ys.length * ei.bytes ≤ 140737488355328 → ys.length ≤ maxLen → ∃ v M', (Builtin.append_ #[t, t] ty #[.slice none 0 0, .slice a ys.length cap]).run P M.w = .ok v M'.w ∧
                  M'.H = upd M.H L' ((M.H L').1 + 1, .row e ei.size ys) ∧ MemOK M' ∧ Fr Φ M' ∧ Mono M M' ∧ VR M' (.own L' ((M.H L').1 + 1) 0 ys.length) v := by
                intro L' hb hmx
                by_cases hz0 : ys.length = 0
                · obtain rfl := List.eq_nil_of_length_eq_zero hz0
                  obtain ⟨M', e1, e2, e3, e4, e5, e6⟩ := empty_sound ok fr L' e ei.size h0
                  refine ⟨.slice none 0 0, M', ?_, e2, e3, e4, e5, e6⟩
                  rw [e1]
                  have hn0 := hempty rfl
                  cases a with
                  | none => simp [Builtin.append_, run_underlying hu, sizeOf, typeInfo, h1, Builtin.lenOf, Builtin.firstCells]
                  | some ad => simp [Builtin.append_, run_underlying hu, sizeOf, typeInfo, h1, Builtin.lenOf, Builtin.firstCells, loadCells, loadCellsFrom]
                · cases a with
                  | none => have := hnil rfl; omega
                  | some ad =>
                    have hmx' : ((ys.length : Nat) : Int) ≤ 9223372036854775807 := by simp only [maxLen] at hmx; omega
                    have hrun := run_append_nil (P := P) M.w t ty e inf z hu h1 hz ad ys.length cap news (by rw [hnl, h2]) (hadd ad rfl) (by omega) hmx' (by rw [h3]; omega)
                    have hcg := grownCap_ge M.w ys.length 0 e
                    have hcm := grownCap_le_maxLen M.w ys.length 0 e hmx
                    obtain ⟨M', e1, e2, e3, e4, e5, e6⟩ := grow_sound ok fr L' (e := e) (sz := ei.size) (K := grownCap M.w ys.length 0 e) (n := ys.length) (xs := ys)
                      (c := news.toArray ++ Builtin.zeroCells z.cells (grownCap M.w ys.length 0 e - ys.length)) h0 hyw
                      (by simp only [Array.size_append, List.size_toArray, size_zeroCells, hzc, hnl, ← Nat.add_mul]; congr 1; omega) rfl hcg hcm
                      (by have := holds_append (M := M) (xs := []) (vs := []) (by intro i l hi; simp [leavesL] at hi) hnh rfl hyl (Builtin.zeroCells z.cells (grownCap M.w ys.length 0 e - ys.length)).toList
                          rw [show news.toArray ++ Builtin.zeroCells z.cells (grownCap M.w ys.length 0 e - ys.length) = ([] ++ news ++ (Builtin.zeroCells z.cells (grownCap M.w ys.length 0 e - ys.length)).toList).toArray from by apply Array.ext'; simp]
                          exact this)
                    exact ⟨_, M', by rw [hrun, e1], e2, e3, e4, e5, e6⟩
              split at h
              · split at h
                · rename_i hb
                  obtain rfl := Option.some.inj h
                  obtain rfl := hx.nils_inv
                  obtain ⟨v, M', e1, e2, e3, e4, e5, e6⟩ := fresh L hb.1 hb.2
                  exact ⟨v, M', e1, e2, e3, e4, e5, e6⟩
                · cases h
              · rename_i d g n
                split at h
                · rename_i g' e' s xs hd
                  split at h
                  · rename_i hc
                    obtain ⟨rfl, rfl, rfl, rfl, hb, hmx⟩ := hc
                    obtain rfl := Option.some.inj h
                    have ho := hx.own_inv hd
                    have hob := ok.objs d
                    have hlive : Live M d := by unfold Live; rw [hd]; simp
                    unfold ObjR at hob
                    rw [hd] at hob
                    obtain ⟨_, hws, hob⟩ := hob
                    have hH : ∀ xs', upd M.H d ((M.H d).1 + 1, AObj.row e' ei.size xs') = Eff.heap ⟨.own d (g' + 1) 0 (xs.length + ys.length), some (d, g' + 1, .row e' ei.size xs')⟩ M.H := fun xs' => by simp [Eff.heap, hd]
                    unfold OwnV at ho
                    have hxl : (leavesL xs).length = xs.length * ei.size := by rw [leavesL_length xs ((wfL_iff _).2 fun z hz => (hws z hz).1), sum_size_const ei.size xs (fun z hz => (hws z hz).2), Nat.mul_comm]
                    cases hβ : M.β d with
                    | none =>
                      rw [hβ] at ho hob
                      simp only at hob
                      subst hob
                      obtain ⟨rfl, _, _⟩ := ho
                      obtain ⟨v, M', e1, e2, e3, e4, e5, e6⟩ := fresh d (by simpa using hb) (by simpa using hmx)
                      refine ⟨v, M', e1, by rw [e2, hH]; simp, e3, e4, e5, ?_⟩
                      have : (M.H d).1 = g' := by rw [hd]
                      simpa [this] using e6
                    | some bK =>
                      obtain ⟨b, K⟩ := bK
                      rw [hβ] at ho hob
                      obtain ⟨ad0, rfl, hK, had0⟩ := ho
                      obtain ⟨c, hcb, hcs, hxK, hKm, hl⟩ := hob
                      have hwz : ∀ z ∈ xs ++ ys, z.wf ∧ z.size = ei.size := fun z hz => by
                        rcases List.mem_append.1 hz with hz | hz
                        · exact hws z hz
                        · exact hyw z hz
                      have hgd : (M.H d).1 = g' := by rw [hd]
                      let olds : List Value := c.toList.take (xs.length * ei.size)
                      have hbnd : xs.length * ei.size ≤ K * ei.size := Nat.mul_le_mul_right _ hxK
                      have holds_len : olds.length = xs.length * ei.size := by simp [olds]; omega
                      have hoh : Holds M (leavesL xs) olds.toArray := by
                        intro i l hi
                        have hil : i < xs.length * ei.size := by have := (List.getElem?_eq_some_iff.1 hi).1; omega
                        have := hl i l hi
                        simp only [olds, Array.getD_eq_getD_getElem?, List.getElem?_toArray, List.getElem?_take, if_pos hil, Array.getElem?_toList] at this ⊢
                        exact this
                      by_cases hroom : xs.length + ys.length ≤ K
                      · -- in place
                        have hfit : (xs.length + ys.length) * ei.size ≤ K * ei.size := Nat.mul_le_mul_right _ hroom
                        rw [Nat.add_mul] at hfit
                        let c' : Array Value := (c.toList.take (xs.length * ei.size) ++ news ++ c.toList.drop (xs.length * ei.size + news.length)).toArray
                        have hcsz : c'.size = c.size := by simp [c']; omega
                        have hh : Holds M (leavesL (xs ++ ys)) c' := holds_append hoh hnh (by omega) hyl _
                        let M' : Mem := { w := M.w.setRow b c', Im := M.Im, β := M.β, H := upd M.H d (g' + 1, .row e' ei.size (xs ++ ys)) }
                        have hm : Mono M M' := ⟨fun _ h => h, fun b' hb' => setRow_other _ _ _ _ (fun e => ok.sep d b K hlive hβ (e ▸ hb')), fun d' => by
                            simp only [M', upd]; split
                            · rename_i h; subst h; omega
                            · exact Nat.le_refl _, fun d' h => by
                            simp only [M', upd] at h ⊢
                            by_cases hd' : d' = d
                            · subst hd'; simp [hgd] at h
                            · simp only [hd', if_false]; exact ⟨trivial, fun _ _ xs hx => ⟨xs, hx⟩⟩⟩
                        have hlive' : ∀ d', Live M' d' → Live M d' := fun d' h => by
                          by_cases hd' : d' = d
                          · subst hd'; exact hlive
                          · simpa [M', Live, upd, hd'] using h
                        have hwM : ∃ v, (Builtin.append_ #[t, t] ty #[.slice (some ad0) xs.length (K - 0), .slice a ys.length cap]).run P M.w = .ok v M'.w ∧ VR M' (.own d (g' + 1) 0 (xs.length + ys.length)) v := by
                          by_cases hz0 : ys.length = 0
                          · have hn0 := hempty hz0
                            have hy0 := List.eq_nil_of_length_eq_zero hz0
                            have hself : M.w.setRow b c' = M.w := by
                              have : c' = c := by
                                apply Array.ext'
                                simp [c', hn0]
                              rw [this]
                              exact setRow_self M.w b c e' (0, 0) hcb
                            refine ⟨.slice (some ad0) xs.length K, ?_, ?_⟩
                            · show _ = Result.ok _ (M.w.setRow b c')
                              rw [hself]
                              subst hy0
                              cases a with
                              | none => simp [Builtin.append_, run_underlying hu, sizeOf, typeInfo, h1, Builtin.lenOf, Builtin.firstCells, hxK, storeCells]
                              | some ad => simp [Builtin.append_, run_underlying hu, sizeOf, typeInfo, h1, Builtin.lenOf, Builtin.firstCells, hxK, storeCells, loadCells, loadCellsFrom]
                            · refine .own rfl (by simp [M']) fun e2 sz2 xs2 hd2 => ?_
                              simp only [M', upd_same, Prod.mk.injEq, true_and, AObj.row.injEq] at hd2
                              simp only [M', hβ, OwnV]
                              exact ⟨ad0, by simp [hz0], by omega, fun hlt => by have := had0 hlt; simpa using this⟩
                          · cases a with
                            | none => have := hnil rfl; omega
                            | some ad =>
                              have e00 := had0 (by omega)
                              simp only [Nat.zero_mul] at e00
                              subst e00
                              have hrun := run_append_room (P := P) M.w t ty e' inf hu h1 b xs.length K c hcb ad ys.length cap news (by rw [hnl, h2]) (hadd ad rfl) hone hroom (by rw [h2]; omega)
                              refine ⟨_, by rw [Nat.sub_zero, hrun, h2], ?_⟩
                              refine .own rfl (by simp [M']) fun e2 sz2 xs2 hd2 => ?_
                              simp only [M', hβ, OwnV]
                              exact ⟨_, rfl, by omega, fun _ => by simp⟩
                        obtain ⟨v, hrun, hvr⟩ := hwM
                        refine ⟨v, M', hrun, by simp [M', Eff.heap], ⟨fun d' => ?_, fun d1 d2 b' K1 K2 hne l1 l2 e1 e2 => ok.inj d1 d2 b' K1 K2 hne (hlive' _ l1) (hlive' _ l2) e1 e2, fun d' b' K' l1 e1 => ok.sep d' b' K' (hlive' _ l1) e1, fun b' hb' => by have := ok.lt b' hb'; simpa [M'] using this⟩,
                          ⟨fr.os, fr.tape, fr.output, by have := fr.size; simpa [M'] using this, fun b' hb' hL => ?_, fun d' b' K' l1 e1 => fr.own d' b' K' (hlive' _ l1) e1, fr.im0, fr.im1⟩, hm, hvr⟩
                        · by_cases hd' : d' = d
                          · subst hd'
                            unfold ObjR
                            simp only [M', upd_same, hβ]
                            exact ⟨h0, hwz, c', setRow_heap _ _ _ _ _ _ hcb, by omega, by simp; omega, hKm, hh.mono hm⟩
                          · refine (ok.objs d').mono hm (by simp [M', upd, hd']) (fun b' K' hb' hl' => setRow_other _ _ _ _ (fun e => ?_))
                            subst e
                            exact ok.inj d' d b' K' K hd' hl' hlive hb' hβ
                        · refine (setRow_other _ _ _ _ (fun e => ?_)).trans (fr.blk b' hb' hL)
                          subst e
                          rcases fr.own d b' K hlive hβ with h' | h'
                          · omega
                          · exact hL h'
                      · -- a new block
                        cases a with
                        | none => have := hnil rfl; omega
                        | some ad =>
                          have hmx' : ((xs.length + ys.length : Nat) : Int) ≤ 9223372036854775807 := by simp only [maxLen] at hmx; omega
                          have holdc : ∀ (j : Nat) v, olds[j]? = some v → M.w.cell? (ad0.add j) = some v := by
                            intro j v hj
                            have hjl : j < xs.length * ei.size := by have := (List.getElem?_eq_some_iff.1 hj).1; omega
                            have h0K : 0 < K := by
                              rcases Nat.eq_zero_or_pos K with hk0 | hk0
                              · have : xs.length = 0 := by omega
                                rw [this] at hjl; simp at hjl
                              · exact hk0
                            have e00 := had0 h0K
                            simp only [Nat.zero_mul] at e00
                            rw [e00, add_mk, Nat.zero_add, cell_of_row M.w b j c e' (0, 0) hcb]
                            simp only [olds, List.getElem?_take, if_pos hjl, Array.getElem?_toList] at hj
                            exact hj
                          have hrun := run_append_grow (P := P) M.w t ty e' inf z hu h1 hz ad0 xs.length K olds (by rw [holds_len, h2]) holdc ad ys.length cap news (by rw [hnl, h2]) (hadd ad rfl) (by omega) hmx' (growslice_fits (by omega) (by rw [h3]; exact hb))
                          have hcg := grownCap_ge M.w (xs.length + ys.length) K e'
                          have hcm := grownCap_le_maxLen M.w (xs.length + ys.length) K e' hmx
                          obtain ⟨M', e1, e2, e3, e4, e5, e6⟩ := grow_sound ok fr d (e := e') (sz := ei.size) (K := grownCap M.w (xs.length + ys.length) K e') (n := xs.length + ys.length) (xs := xs ++ ys)
                            (c := olds.toArray ++ news.toArray ++ Builtin.zeroCells z.cells (grownCap M.w (xs.length + ys.length) K e' - (xs.length + ys.length))) h0 hwz
                            (by simp only [Array.size_append, List.size_toArray, size_zeroCells, hzc, hnl, holds_len, ← Nat.add_mul]; congr 1; omega) (by simp) hcg hcm
                            (by have := holds_append (M := M) hoh hnh (by omega) hyl (Builtin.zeroCells z.cells (grownCap M.w (xs.length + ys.length) K e' - (xs.length + ys.length))).toList
                                rw [show olds.toArray ++ news.toArray ++ Builtin.zeroCells z.cells (grownCap M.w (xs.length + ys.length) K e' - (xs.length + ys.length)) = (olds ++ news ++ (Builtin.zeroCells z.cells (grownCap M.w (xs.length + ys.length) K e' - (xs.length + ys.length))).toList).toArray from by apply Array.ext'; simp]
                                exact this)
                          refine ⟨_, M', by rw [Nat.sub_zero, hrun, e1], by rw [e2, hH], e3, e4, e5, ?_⟩
                          rw [hgd] at e6
                          exact e6
                  · cases h
                · cases h
              · cases h
            · cases h
          · cases h
        · cases h
      · cases h
    · cases h
  · cases h

end
end Go.Proofs.Ytnonimnhninafaa.Ab

/- All operations that call no function. -/
namespace Go.Proofs.Ytnonimnhninafaa.Ab
open Go
set_option linter.unusedVariables false
set_option linter.unusedSimpArgs false

theorem upd_self {α : Type} (f : Nat → α) (a : Nat) : upd f a (f a) = f := by
  funext b; simp only [upd]; split <;> simp_all

section
variable {P : Program} {Θ : Tab} (hΘ : TabOK P Θ) {Φ : Base} {M : Mem}

include hΘ in
theorem copy_sound (ok : MemOK M) (fr : Fr Φ M) {t u ty : TypeId} {x y : Tr} {vx vy : Value} {f : Eff} (hx : VR M x vx) (hy : VR M y vy) (h : aCopy Θ M.H t x y = some f) :
    ∃ v M', (Builtin.copy_ #[t, u] ty #[vx, vy]).run P M.w = .ok v M'.w ∧ M'.H = f.heap M.H ∧ MemOK M' ∧ Fr Φ M' ∧ Mono M M' ∧ VR M' f.val v := by
  unfold aCopy at h
  split at h
  · rename_i ti hti
    split at h
    · rename_i e hk
      have hu := (hΘ t ti hti).und
      rw [hk] at hu
      split at h
      · rename_i ei d g lo len hei
        split at h
        · rename_i g' e' s xs ys hd hys
          split at h
          · rename_i hc
            obtain ⟨rfl, rfl, hle⟩ := hc
            obtain rfl := Option.some.inj h
            obtain ⟨inf, h1, h2, h3⟩ := tab_size hΘ hei
            obtain ⟨a, cap, news, rfl, hcap, hnil, hyw, hnl, hnews, hnh⟩ := elems_sound ok hy hys
            have hyl : (leavesL ys).length = news.length := by rw [hnl, leavesL_length ys ((wfL_iff _).2 fun z hz => (hyw z hz).1), sum_size_const ei.size ys (fun z hz => (hyw z hz).2), Nat.mul_comm]
            have ho := hx.own_inv hd
            have hob := ok.objs d
            have hlive : Live M d := by unfold Live; rw [hd]; simp
            unfold ObjR at hob
            rw [hd] at hob
            obtain ⟨h0, hws, hob⟩ := hob
            have hsame : ys.take len = [] → MemOK M ∧ Fr Φ M ∧ Mono M M ∧ M.H = Eff.heap ⟨.int .i64 (min ys.length len : Nat), some (d, g', .row e' ei.size (splice xs lo (ys.take len)))⟩ M.H := fun hz => by
              refine ⟨ok, fr, Mono.refl M, ?_⟩
              have : splice xs lo (ys.take len) = xs := by rw [hz]; simp [splice]
              simp only [Eff.heap, this, ← hd, upd_self]
            have hmin : Nat.min ys.length len = (ys.take len).length := by rw [List.length_take]; exact Nat.min_comm _ _
            have e0 : ∀ (vx : Value), vx = .slice none 0 0 ∨ (∃ ad cp, vx = .slice (some ad) len cp) → (ys.take len) = [] → (vx = .slice none 0 0 → len = 0) → (Builtin.copy_ #[t, u] ty #[vx, .slice a ys.length cap]).run P M.w = .ok (.int .i64 (min ys.length len : Nat)) M.w := by
              intro vx hvx hz hv0
              have hmz : Nat.min ys.length len = 0 := by rw [hmin, hz]; rfl
              have hmz' : min ys.length len = 0 := hmz
              rcases hvx with rfl | ⟨ad, cp, rfl⟩
              · have := hv0 rfl
                subst this
                cases a <;> simp [Builtin.copy_, run_underlying hu, Builtin.lenOf, sizeOf, typeInfo, h1, Builtin.firstCells, loadCells, loadCellsFrom, goInt]
              · cases a <;> simp [Builtin.copy_, run_underlying hu, Builtin.lenOf, sizeOf, typeInfo, h1, Builtin.firstCells, hmz', loadCells, loadCellsFrom, goInt, storeCells]
            unfold OwnV at ho
            cases hβ : M.β d with
            | none =>
              rw [hβ] at ho
              obtain ⟨rfl, rfl, rfl⟩ := ho
              obtain ⟨k1, k2, k3, k4⟩ := hsame (by simp)
              exact ⟨_, M, e0 _ (.inl rfl) (by simp) (fun _ => rfl), k4, k1, k2, k3, .int _ _⟩
            | some bK =>
              obtain ⟨b, K⟩ := bK
              rw [hβ] at ho hob
              obtain ⟨ad, rfl, hK, had⟩ := ho
              obtain ⟨c, hcb, hcs, hxK, hKm, hl⟩ := hob
              by_cases hz : ys.take len = []
              · obtain ⟨k1, k2, k3, k4⟩ := hsame hz
                exact ⟨_, M, e0 _ (.inr ⟨_, _, rfl⟩) hz (fun h => by cases h), k4, k1, k2, k3, .int _ _⟩
              · have hpos : 0 < (ys.take len).length := List.length_pos_iff.2 hz
                have hlen0 : 0 < len := by simp at hpos; omega
                have hylen : 0 < ys.length := by simp at hpos; omega
                obtain rfl := had (by omega)
                cases a with
                | none => have := hnil rfl; omega
                | some ay =>
                  let n := (ys.take len).length
                  have hnle : n ≤ ys.length := by simp only [n, List.length_take]; omega
                  have hnle2 : n ≤ len := by simp only [n, List.length_take]; omega
                  have hnsz : n * ei.size ≤ ys.length * ei.size := Nat.mul_le_mul_right _ hnle
                  let cs : List Value := news.take (n * ei.size)
                  have hcsl : cs.length = n * ei.size := by simp [cs]; omega
                  have hcell : ∀ (j : Nat) v, cs[j]? = some v → M.w.cell? (ay.add j) = some v := by
                    intro j v hj
                    simp only [cs, List.getElem?_take] at hj
                    split at hj
                    · obtain ⟨ad', q1, q2⟩ := hnews j v hj
                      obtain rfl := Option.some.inj q1
                      exact q2
                    · cases hj
                  have hf := run_firstCells_some (P := P) M.w ei.size n ay ys.length cap cs hcsl hcell
                  have hone : ∀ v ∈ cs, v.oneCell' = true := by
                    intro v hv
                    have hv' := List.mem_of_mem_take hv
                    obtain ⟨j, hj, rfl⟩ := List.mem_iff_getElem.1 hv'
                    have hjl : j < (leavesL ys).length := by omega
                    have := hnh j _ (List.getElem?_eq_getElem hjl)
                    obtain ⟨lw, ll⟩ := leavesL_wf ys ((wfL_iff _).2 fun z hz => (hyw z hz).1) _ (List.getElem_mem hjl)
                    have e1 : news.toArray.getD j undef = news[j] := by simp [Array.getD_eq_getD_getElem?, hj]
                    rw [e1] at this
                    exact this.one lw ll
                  have hbd : (lo + len) * ei.size ≤ K * ei.size := Nat.mul_le_mul_right _ hK
                  have hbd2 : n * ei.size ≤ len * ei.size := Nat.mul_le_mul_right _ hnle2
                  rw [Nat.add_mul] at hbd
                  have hst := run_storeCells_at P b (lo * ei.size) e' cs 0 c M.w hcb (by omega) hone
                  simp only [Nat.add_zero] at hst
                  let c' : Array Value := (c.toList.take (lo * ei.size) ++ cs ++ c.toList.drop (lo * ei.size + cs.length)).toArray
                  have hcsz : c'.size = c.size := by simp [c']; omega
                  have hos : ObjSame (M.H d).2 (.row e' ei.size (splice xs lo (ys.take len))) := fun e1 s1 x1 h => by rw [hd]; cases h; exact ⟨xs, rfl⟩
                  have hm := Mem.writeAt_mono ok d b K (.row e' ei.size (splice xs lo (ys.take len))) c' hlive hβ hos
                  have hmin' : Nat.min ys.length len = n := hmin
                  refine ⟨.int .i64 (n : Nat), M.writeAt d b (.row e' ei.size (splice xs lo (ys.take len))) c', ?_, ?_, Mem.writeAt_ok ok d b K _ _ hlive hβ hos ?_, fr.writeAt d b K _ _ hlive hβ, hm, ?_⟩
                  · simp only [Builtin.copy_, List.getElem?_toArray, List.getElem?_cons_zero, List.getElem?_cons_succ, Sem.run_bind, run_underlying hu, Result.andThen_ok, Builtin.lenOf, Sem.run_pure, run_sizeOf hΘ hei, hmin', hf]
                    simp only [hst, Result.andThen_ok]
                    rfl
                  · simp [Mem.writeAt, Eff.heap, hd]
                  · unfold ObjR
                    simp only [Mem.writeAt, upd_same]
                    refine ⟨h0, fun z hz => ?_, ?_⟩
                    · simp only [splice, List.mem_append] at hz
                      rcases hz with hz | hz | hz
                      · exact hws z (List.mem_of_mem_take hz)
                      · exact hyw z (List.mem_of_mem_take hz)
                      · exact hws z (List.mem_of_mem_drop hz)
                    · rw [hβ]
                      refine ⟨c', setRow_heap _ _ _ _ _ _ hcb, by omega, by rw [length_splice _ _ _ (by omega)]; exact hxK, hKm, ?_⟩
                      have hh : Holds M (leavesL (splice xs lo (ys.take len))) c' := by
                        have hxl : (leavesL xs).length = xs.length * ei.size := by rw [leavesL_length xs ((wfL_iff _).2 fun z hz => (hws z hz).1), sum_size_const ei.size xs (fun z hz => (hws z hz).2), Nat.mul_comm]
                        have hlt : (leavesL (ys.take len)).length = n * ei.size := by
                          rw [leavesL_length _ (wfL_take ((wfL_iff _).2 fun z hz => (hyw z hz).1) _), sum_size_const ei.size _ (fun z hz => (hyw z (List.mem_of_mem_take hz)).2), Nat.mul_comm]
                        have e1 : leavesL (splice xs lo (ys.take len)) = (leavesL xs).take (lo * ei.size) ++ (leavesL (ys.take len) ++ (leavesL xs).drop (lo * ei.size + (leavesL (ys.take len)).length)) := by
                          rw [splice, leavesL_append, leavesL_append, leavesL_take ei.size xs hws lo (by omega), leavesL_drop ei.size xs hws _ (by omega), hlt, Nat.add_mul]
                        rw [e1]
                        refine Holds.splice (vs := cs.toArray) hl ?_ ?_ (by simp; omega) (by simp [hcsl, hlt]) ?_
                        · intro j l hj
                          rw [leavesL_take' ei.size ys hyw len, List.getElem?_take] at hj
                          split at hj
                          · have := hnh j l hj
                            have hjn : j < n * ei.size := by
                              rename_i hjl
                              rcases Nat.lt_or_ge len ys.length with h' | h'
                              · have : n = len := by simp only [n, List.length_take]; omega
                                rw [this]; exact hjl
                              · have : n = ys.length := by simp only [n, List.length_take]; omega
                                rw [this]
                                have := (List.getElem?_eq_some_iff.1 hj).1
                                omega
                            simp only [cs, Array.getD_eq_getD_getElem?, List.getElem?_toArray, List.getElem?_take, if_pos hjn] at this ⊢
                            exact this
                          · cases hj
                        · rw [hxl]; exact Nat.mul_le_mul_right _ (by omega)
                        · intro j
                          have := splice_get c cs (lo * ei.size) (by omega) j
                          simpa [c'] using this
                      exact hh.mono hm
                  · have : min ys.length len = n := hmin
                    rw [this]
                    exact .int _ _
          · cases h
        · cases h
      · cases h
    · cases h
  · cases h

include hΘ in
theorem len_sound {t ty : TypeId} {x r : Tr} {v : Value} (hx : VR M x v) (h : aLen Θ M.H t x = some r) : ∃ u, (Builtin.len_ #[t] ty #[v]).run P M.w = .ok u M.w ∧ VR M r u := by
  unfold aLen at h
  split at h
  · rename_i ti hti
    have hu := (hΘ t ti hti).und
    split at h
    · rename_i s hk
      rw [hk] at hu
      obtain rfl := Option.some.inj h
      obtain rfl := hx.str_inv
      exact ⟨_, by simp [Builtin.len_, run_underlying hu, goInt], .int _ _⟩
    · rename_i e sz xs hk
      rw [hk] at hu
      obtain rfl := Option.some.inj h
      obtain ⟨a, cap, vs, rfl, _⟩ := hx.sl_inv
      exact ⟨_, by simp [Builtin.len_, run_underlying hu, goInt], .int _ _⟩
    · rename_i e d g lo n hk
      rw [hk] at hu
      split at h
      · rename_i g' e' s xs hd
        split at h
        · rename_i hg
          subst hg
          obtain rfl := Option.some.inj h
          have ho := hx.own_inv hd
          unfold OwnV at ho
          have : ∃ a c, v = .slice a n c := by
            cases hβ : M.β d with
            | none => rw [hβ] at ho; obtain ⟨rfl, _, rfl⟩ := ho; exact ⟨none, 0, rfl⟩
            | some bK => rw [hβ] at ho; obtain ⟨ad, rfl, _⟩ := ho; exact ⟨_, _, rfl⟩
          obtain ⟨a, c, rfl⟩ := this
          exact ⟨_, by simp [Builtin.len_, run_underlying hu, goInt], .int _ _⟩
        · cases h
      · cases h
    · rename_i e hk
      rw [hk] at hu
      obtain rfl := Option.some.inj h
      obtain rfl := hx.nils_inv
      exact ⟨_, by simp [Builtin.len_, run_underlying hu, goInt], .int _ _⟩
    · rename_i n e hk
      rw [hk] at hu
      obtain rfl := Option.some.inj h
      exact ⟨_, by simp [Builtin.len_, run_underlying hu.1, goInt], .int _ _⟩
    · rename_i a hk
      rw [hk] at hu
      split at h
      · rename_i ai hai
        split at h
        · rename_i n e hk2
          have hu2 := (hΘ a ai hai).und
          rw [hk2] at hu2
          obtain rfl := Option.some.inj h
          exact ⟨_, by simp [Builtin.len_, run_underlying hu, run_underlying hu2.1, goInt], .int _ _⟩
        · cases h
      · cases h
    · cases h
  · cases h

theorem OpOK.of_run {x : Sem Value} {val : Tr} {H' : Heap} {v : Value} {M' : Mem} (hr : x.run P M.w = .ok v M'.w) (hH : M'.H = H') (ok : MemOK M') (fr : Fr Φ M') (hm : Mono M M') (hv : VR M' val v) :
    OpOK P Φ M (do pure (.value (← x)) : Sem Next) val H' :=
  ⟨v, M', .inl (by simp only [Sem.run_bind, hr, Result.andThen_ok, Sem.run_pure]), hH, ok, fr, hm, hv⟩

theorem OpOK.of_read (ok : MemOK M) (fr : Fr Φ M) {x : Sem Value} {val : Tr} (h : ∃ v, x.run P M.w = .ok v M.w ∧ VR M val v) : OpOK P Φ M (do pure (.value (← x)) : Sem Next) val M.H :=
  let ⟨_, hr, hv⟩ := h
  .of_run hr rfl ok fr (Mono.refl M) hv

include hΘ in
theorem builtin_sound (ok : MemOK M) (fr : Fr Φ M) (L : Nat) {b : Builtin} {tys : Array TypeId} {ty : TypeId} {cs : Array Bool} {args : List Tr} {vs : Array Value} {f : Eff}
    (hs : vs.size = args.length) (hv : ∀ i x, args[i]? = some x → VR M x (vs.getD i undef)) (h : aBuiltin Θ M.H L b tys.toList args = some f) : OpOK P Φ M (builtin b tys ty cs vs) f.val (f.heap M.H) := by
  unfold aBuiltin at h
  have one : ∀ x, args = [x] → ∃ v, vs = #[v] ∧ VR M x v := by
    intro x hx
    subst hx
    obtain ⟨v, rfl⟩ := Array.size_eq_one_iff.1 (by simpa using hs)
    exact ⟨v, rfl, by simpa using hv 0 x rfl⟩
  have two : ∀ x y, args = [x, y] → ∃ v u, vs = #[v, u] ∧ VR M x v ∧ VR M y u := by
    intro x y hx
    subst hx
    obtain ⟨l⟩ := vs
    match l, hs with
    | [v, u], _ => exact ⟨v, u, rfl, by simpa using hv 0 x rfl, by simpa using hv 1 y rfl⟩
  split at h
  · rename_i t x ht
    obtain ⟨v, rfl, hx⟩ := one x rfl
    obtain ⟨r, hr, rfl⟩ := Option.map_eq_some_iff.1 h
    have ht' : tys = #[t] := by rw [← Array.toArray_toList (xs := tys), ht]
    subst ht'
    exact .of_read ok fr (len_sound hΘ hx hr)
  · rename_i t u x y ht
    obtain ⟨v, v', rfl, hx, hy⟩ := two x y rfl
    have ht' : tys = #[t, u] := by rw [← Array.toArray_toList (xs := tys), ht]
    subst ht'
    obtain ⟨w, M', e1, e2, e3, e4, e5, e6⟩ := append_sound (ty := ty) hΘ ok fr L hx hy h
    exact .of_run e1 e2 e3 e4 e5 e6
  · rename_i t u x y ht
    obtain ⟨v, v', rfl, hx, hy⟩ := two x y rfl
    have ht' : tys = #[t, u] := by rw [← Array.toArray_toList (xs := tys), ht]
    subst ht'
    obtain ⟨w, M', e1, e2, e3, e4, e5, e6⟩ := copy_sound (u := u) (ty := ty) hΘ ok fr hx hy h
    exact .of_run e1 e2 e3 e4 e5 e6
  · rename_i x y
    obtain ⟨v, v', rfl, hx, hy⟩ := two x y rfl
    obtain ⟨r, hr, rfl⟩ := Option.map_eq_some_iff.1 h
    refine .of_read ok fr ?_
    unfold aMin at hr
    split at hr
    · split at hr
      · rename_i hk
        subst hk
        obtain rfl := Option.some.inj hr
        obtain rfl := hx.int_inv
        obtain rfl := hy.int_inv
        exact ⟨_, by simp [Builtin.min_, Builtin.min2], .int _ _⟩
      · cases hr
    · cases hr
  · rename_i x y
    obtain ⟨v, v', rfl, hx, hy⟩ := two x y rfl
    obtain ⟨r, hr, rfl⟩ := Option.map_eq_some_iff.1 h
    refine .of_read ok fr ?_
    unfold aMax at hr
    split at hr
    · split at hr
      · rename_i hk
        subst hk
        obtain rfl := Option.some.inj hr
        obtain rfl := hx.int_inv
        obtain rfl := hy.int_inv
        exact ⟨_, by simp [Builtin.max_, Builtin.max2], .int _ _⟩
      · cases hr
    · cases hr
  · cases h

theorem ofConst_vr (v : Value) : VR M (ofConst v) v := by
  cases v
  case int => exact .int _ _
  case bool => exact .bool _
  case string => exact .str _
  case nilFunc => exact .nilf
  case pointer a => cases a <;> simp [ofConst] <;> constructor
  case slice a l c =>
    simp only [ofConst]
    split
    · rename_i h
      obtain ⟨h1, rfl, rfl⟩ := h
      cases a
      · exact .nils
      · simp at h1
    · exact .any _
  case func fn first caps =>
    cases fn
    case func f =>
      simp only [ofConst]
      split
      · rename_i h
        have h1 : first = #[] := Array.eq_empty_of_size_eq_zero h.1
        have h2 : caps = #[] := Array.eq_empty_of_size_eq_zero h.2
        subst h1 h2
        exact .clo rfl (by intro i x h; simp at h)
      · exact .any _
    all_goals exact .any _
  all_goals exact .any _

theorem rdOp_vr {T : Nat → Tr} {a : Act} (hT : ∀ t, VR M (T t) (a.tmps.getD t undef)) (x : Operand) : VR M (rdOp T x) (a.eval x) := by
  cases x with
  | tmp t => exact hT t
  | const v => exact ofConst_vr v
  | global g => exact .any _
  | func f => exact .clo (vs := #[]) rfl (by intro i x h; simp at h)

include hΘ in
theorem load_sound (ok : MemOK M) {t : TypeId} {x r : Tr} {v : Value} (hx : VR M x v) (h : aLoad Θ M.H t x = some r) : ∃ u, (Instr.loadAt t v).run P M.w = .ok u M.w ∧ VR M r u := by
  unfold aLoad at h
  split at h
  · rename_i i u hi hat
    split at h
    · rename_i hc
      obtain rfl := Option.some.inj h
      obtain ⟨a, rfl, hw, hcell⟩ := aAt_sound ok hx hat
      obtain ⟨w, hr, hv⟩ := run_load_tree (P := P) hΘ hi hw hc.2.2 hc.1 hc.2.1 a hcell
      exact ⟨w, by simp only [Instr.loadAt, Instr.sureAddr, Sem.run_bind, Sem.run_pure, Result.andThen_ok, hr], hv⟩
    · cases h
  · cases h

include hΘ in
theorem aOp0_sound (ok : MemOK M) (fr : Fr Φ M) {rd : Operand → Tr} {ρ : Operand → Value} (hr : ∀ x, VR M (rd x) (ρ x)) {L : Nat} {o : Oper} {f : Eff} (h : aOp0 Θ M.H L rd o.op = some f) :
    OpOK P Φ M (execOp ρ o) f.val (f.heap M.H) := by
  obtain ⟨dst, op, type, pos, after, guard⟩ := o
  simp only at h
  cases op
  case move x => obtain rfl := Option.some.inj h; exact .still ok fr rfl (hr x)
  case assign x => obtain rfl := Option.some.inj h; exact .still ok fr rfl (hr x)
  case pick c a b =>
    simp only [aOp0] at h
    split at h
    · rename_i c' hc
      obtain rfl := Option.some.inj h
      have h1 := hr c
      rw [hc] at h1
      have h2 := h1.bool_inv
      refine .still (v := if c' = true then ρ a else ρ b) ok fr (by simp [execOp, h2, asBool]) ?_
      cases c'
      · exact hr b
      · exact hr a
    · cases h
  case alloc t =>
    simp only [aOp0] at h
    split at h
    · rename_i i hi
      split at h
      · rename_i hg
        obtain rfl := Option.some.inj h
        obtain ⟨hzw, hzs, inf, z, h1, hz, h2, h3, hzc, hzh⟩ := zero_ok hΘ hi hg
        obtain ⟨M', e1, e2, e3, e4, e5, e6⟩ := newVar_sound (P := P) ok fr L (t := t) (v := z) hzw (by omega) (hzh M)
        refine .of_run (v := .pointer (some ⟨M.w.heap.size, 0, none⟩)) ?_ e2 e3 e4 e5 e6
        simp only [Instr.alloc, Sem.run_bind, zeroValue, typeInfo, run_program, Result.andThen_ok, h1, Sem.run_pure, hz, e1]
      · cases h
    · cases h
  case box t x =>
    simp only [aOp0] at h
    split at h
    · rename_i hg
      obtain rfl := Option.some.inj h
      obtain ⟨hcs, hcl⟩ := (hr x).cells hg
      obtain ⟨M', e1, e2, e3, e4, e5, e6⟩ := newVar_sound (P := P) ok fr L (t := t) (good_wf (hr x) hg) hcs hcl
      refine .of_run (v := .pointer (some ⟨M.w.heap.size, 0, none⟩)) ?_ e2 e3 e4 e5 e6
      simp only [Instr.box, Sem.run_bind, Result.andThen_ok, Sem.run_pure, e1]
    · cases h
  case build t ps =>
    simp only [aOp0] at h
    split at h
    · rename_i i hi
      split at h
      · rename_i hg
        obtain ⟨val, hb, rfl⟩ := Option.map_eq_some_iff.1 h
        exact .of_read ok fr (build_sound hΘ hi hg hr ps hb)
      · cases h
    · cases h
  case buildSlice t len ps =>
    simp only [aOp0] at h
    split at h
    · rename_i i hi
      split at h
      · rename_i e hk
        split at h
        · rename_i ei hei
          split at h
          · rename_i hc
            split at h
            · rename_i xs hxs
              obtain rfl := Option.some.inj h
              obtain ⟨v, M', e1, e2, e3, e4, e5, e6⟩ := buildSlice_sound hΘ ok fr L hi hk hei hc.1 hc.2.1 len hc.2.2 hr ps hxs
              exact .of_run e1 e2 e3 e4 e5 e6
            · cases h
          · cases h
        · cases h
      · cases h
    · cases h
  case load t x =>
    simp only [aOp0] at h
    obtain ⟨r, hl, rfl⟩ := Option.map_eq_some_iff.1 h
    exact .of_read ok fr (load_sound hΘ ok (hr x) hl)
  case store t x v =>
    simp only [aOp0] at h
    obtain ⟨M', e1, e2, e3, e4, e5, e6⟩ := store_sound (P := P) hΘ ok fr (hr x) (hr v) h
    refine ⟨undef, M', .inr ⟨?_, rfl⟩, e2, e3, e4, e5, by rw [e6]; exact .any _⟩
    simp only [execOp, Sem.run_bind, e1, Result.andThen_ok, Sem.run_pure]
  case nilCheck x =>
    simp only [aOp0] at h
    have h1 := hr x
    split at h
    · rename_i d g p off hx
      split at h
      · rename_i hg
        obtain rfl := Option.some.inj h
        rw [hx] at h1
        obtain ⟨b, K, hb, hv⟩ := h1.ptr_inv hg
        refine .still (v := ρ x) ok fr (by simp only [execOp, hv, Sem.run_pure]) h1
      · cases h
    · rename_i y hx
      obtain rfl := Option.some.inj h
      rw [hx] at h1
      obtain ⟨a, vs, hv, _⟩ := h1.iptr_inv
      refine .still (v := ρ x) ok fr (by simp only [execOp, hv, Sem.run_pure]) h1
    · cases h
  case binOp op t x y ty =>
    simp only [aOp0] at h
    obtain ⟨r, hl, rfl⟩ := Option.map_eq_some_iff.1 h
    exact .of_read ok fr (bin_sound hΘ hl (hr x) (hr y) x y)
  case unOp op t x =>
    simp only [aOp0] at h
    obtain ⟨r, hl, rfl⟩ := Option.map_eq_some_iff.1 h
    exact .of_read ok fr (un_sound hl (hr x))
  case convert s t x =>
    simp only [aOp0] at h
    split at h
    · rename_i si hsi
      obtain ⟨r, hl, rfl⟩ := Option.map_eq_some_iff.1 h
      exact .of_read ok fr (conv_sound hΘ ⟨_, hsi⟩ hl (hr x))
    · cases h
  case makeFunc fn first caps =>
    cases fn
    case func f' =>
      simp only [aOp0] at h
      split at h
      · rename_i h0
        obtain rfl := Option.some.inj h
        have hf : first = #[] := Array.eq_empty_of_size_eq_zero h0
        subst hf
        refine .still ok fr (v := .func (.func f') #[] (caps.map ρ)) (by simp [execOp, Instr.makeFunc]) (.clo (by simp) fun i x hx => ?_)
        obtain ⟨c, hc, rfl⟩ := map_get _ _ _ _ hx
        have : (caps.map ρ).getD i undef = ρ c := by
          rw [Array.getElem?_toList] at hc
          simp [Array.getD_eq_getD_getElem?, Array.getElem?_map, hc]
        rw [this]
        exact hr c
      · cases h
    all_goals simp [aOp0] at h
  case makeSlice t n m =>
    simp only [aOp0] at h
    obtain ⟨v, M', e1, e2, e3, e4, e5, e6⟩ := makeSlice_sound hΘ ok fr L (hr n) (hr m) h
    exact .of_run e1 e2 e3 e4 e5 e6
  case slice t x lo hi mx =>
    cases mx
    case none =>
      simp only [aOp0] at h
      obtain ⟨r, hl, rfl⟩ := Option.map_eq_some_iff.1 h
      refine .of_read ok fr (slice_sound hΘ (hr x) (lo := lo.map rd) (hi := hi.map rd) ?_ ?_ ?_ ?_ hl)
      · intro t ht
        obtain ⟨y, hy, rfl⟩ := Option.map_eq_some_iff.1 ht
        exact ⟨ρ y, by rw [hy]; rfl, hr y⟩
      · intro ht; cases lo <;> simp_all
      · intro t ht
        obtain ⟨y, hy, rfl⟩ := Option.map_eq_some_iff.1 ht
        exact ⟨ρ y, by rw [hy]; rfl, hr y⟩
      · intro ht; cases hi <;> simp_all
    case some m => simp [aOp0] at h
  case fieldAddr t x i =>
    simp only [aOp0] at h
    obtain ⟨r, hl, rfl⟩ := Option.map_eq_some_iff.1 h
    exact .of_read ok fr (fieldAddr_sound hΘ (hr x) hl)
  case field t x i =>
    simp only [aOp0] at h
    obtain ⟨r, hl, rfl⟩ := Option.map_eq_some_iff.1 h
    exact .of_read ok fr (field_sound hΘ (hr x) hl)
  case indexAddr t x i =>
    simp only [aOp0] at h
    obtain ⟨r, hl, rfl⟩ := Option.map_eq_some_iff.1 h
    exact .of_read ok fr (indexAddr_sound hΘ (hr x) (hr i) hl)
  case index t x i =>
    simp only [aOp0] at h
    obtain ⟨r, hl, rfl⟩ := Option.map_eq_some_iff.1 h
    exact .of_read ok fr (index_sound hΘ (hr x) (hr i) hl)
  case extract x i =>
    simp only [aOp0] at h
    split at h
    · rename_i xs hx
      obtain ⟨r, hl, rfl⟩ := Option.map_eq_some_iff.1 h
      have h1 := hr x
      rw [hx] at h1
      obtain ⟨vs, hv, hs, hvl⟩ := h1.tup_inv
      refine .of_read ok fr ⟨vs.getD i undef, ?_, hvl i r hl⟩
      have hi : i < vs.size := by have := (List.getElem?_eq_some_iff.1 hl).1; omega
      simp [Instr.extract, hv, hi]
    · cases h
  case call c =>
    obtain ⟨callee, args, argTypes⟩ := c
    cases callee
    case builtin b =>
      simp only [aOp0] at h
      have key : ∀ cs, OpOK P Φ M (builtin b argTypes type cs (args.map ρ)) f.val (f.heap M.H) := fun cs => builtin_sound (P := P) (ty := type) (cs := cs) (vs := args.map ρ) hΘ ok fr L (by simp) (fun i x hx => by
        obtain ⟨c, hc, rfl⟩ := map_get _ _ _ _ hx
        have : (args.map ρ).getD i undef = ρ c := by
          rw [Array.getElem?_toList] at hc
          simp [Array.getD_eq_getD_getElem?, Array.getElem?_map, hc]
        rw [this]
        exact hr c) h
      unfold OpOK at key ⊢
      simp only [execOp, resolve, Sem.run_bind, Sem.run_pure, Result.andThen_ok, invoke]
      exact key _
    all_goals simp [aOp0] at h
  all_goals simp [aOp0] at h

omit hΘ in
/-- A whole row is told as what never changes. -/
theorem VR.unown (ok : MemOK M) {d g e sz n : Nat} {xs : List Tr} {v : Value} (hd : M.H d = (g, .row e sz xs)) (h : VR M (.own d g 0 n) v) (hn : n = xs.length) {M2 : Mem} (hw : M2.w = M.w) (hm : Mono M M2) (hI : ∀ b K, M.β d = some (b, K) → M2.Im b) : VR M2 (.sl sz xs) v := by
  subst hn
  have hel : aElems M.H sz (.own d g 0 xs.length) = some xs := by simp [aElems, hd]
  have ho := h.own_inv hd
  obtain ⟨a, cap, news, rfl, hcap, hnil, hyw, hnl, hnews, hnh⟩ := elems_sound ok h hel
  refine .sl (fun j => news.getD j undef) hcap hnil hyw (fun ad ha hp => ?_) (fun i l hi => ?_) (fun i l hi => ?_)
  · unfold OwnV at ho
    cases hβ : M.β d with
    | none => rw [hβ] at ho; omega
    | some bK =>
      obtain ⟨b, K⟩ := bK
      rw [hβ] at ho
      obtain ⟨ad', e1, hK, had⟩ := ho
      simp only [Value.slice.injEq] at e1
      obtain ⟨e1, _, _⟩ := e1
      rw [ha] at e1
      obtain rfl := Option.some.inj e1
      rw [had (by omega)]
      exact ⟨rfl, hI b K hβ⟩
  · have hyl : (leavesL xs).length = news.length := by rw [hnl, leavesL_length _ ((wfL_iff _).2 fun z hz => (hyw z hz).1), sum_size_const sz _ (fun z hz => (hyw z hz).2), Nat.mul_comm]
    have hil : i < news.length := by have := (List.getElem?_eq_some_iff.1 hi).1; omega
    obtain ⟨ad, e1, e2⟩ := hnews i _ (List.getElem?_eq_getElem hil)
    refine ⟨ad, e1, ?_⟩
    simp only [List.getD, List.getElem?_eq_getElem hil, Option.getD_some]
    rw [hw]
    exact e2
  · have := hnh i l hi
    simp only [Array.getD_eq_getD_getElem?, List.getElem?_toArray] at this
    exact this.mono hm

omit hΘ in
theorem seal_sound {x : Sem Next} {f : Eff} {L : Nat} (h : OpOK P Φ M x f.val (f.heap M.H)) : OpOK P Φ M x (sealE L f).val ((sealE L f).heap M.H) := by
  unfold sealE
  split
  · split
    · rename_i d g n d' g' e sz xs
      split
      · rename_i hc
        obtain ⟨rfl, rfl, hn⟩ := hc
        obtain ⟨v, M', hrun, hH, ok', fr', hm, hv⟩ := h
        have hH' : M'.H = upd M.H d' (g', .row e sz xs) := hH
        have hd : M'.H d' = (g', .row e sz xs) := by rw [hH', upd_same]
        let M2 : Mem := ⟨M'.w, fun b => M'.Im b ∨ ∃ K, M'.β d' = some (b, K), M'.β, upd M'.H d' (g', .dead)⟩
        have hlive' : Live M' d' := by unfold Live; rw [hd]; simp
        have hlive : ∀ j, Live M2 j → j ≠ d' ∧ Live M' j := fun j hl => by
          by_cases hj : j = d'
          · subst hj; simp [M2, Live, upd] at hl
          · exact ⟨hj, by simpa [M2, Live, upd, hj] using hl⟩
        have hm2 : Mono M' M2 := by
          refine ⟨fun _ h => .inl h, fun _ _ => rfl, fun j => ?_, fun j _ => ⟨rfl, ?_⟩⟩
          · simp only [M2, upd]; split
            · rename_i hh; subst hh; rw [hd]; exact Nat.le_refl _
            · exact Nat.le_refl _
          · simp only [M2, upd]; split
            · intro e sz xs' hx; cases hx
            · exact fun _ _ xs hx => ⟨xs, hx⟩
        have hHeap : M2.H = upd M.H d' (g', .dead) := by
          show upd M'.H d' _ = _
          rw [hH']
          funext j
          simp only [upd]
          split <;> rfl
        refine ⟨v, M2, hrun, hHeap, ⟨fun j => ?_, fun d1 d2 b K K' hne l1 l2 e1 e2 => ok'.inj d1 d2 b K K' hne (hlive d1 l1).2 (hlive d2 l2).2 e1 e2, fun j b K hl hb hI => ?_, fun b hb => ?_⟩,
          ⟨fr'.os, fr'.tape, fr'.output, fr'.size, fr'.blk, fun j b K hl hb => fr'.own j b K (hlive j hl).2 hb, fun b hb => .inl (fr'.im0 b hb), fun b hb => ?_⟩, hm.trans hm2, VR.unown ok' hd hv hn rfl hm2 fun b K hb => .inr ⟨K, hb⟩⟩
        · by_cases hj : j = d'
          · subst hj
            unfold ObjR
            simp only [M2, upd_same]
          · exact (ok'.objs j).mono hm2 (by simp [M2, upd, hj]) (fun _ _ _ _ => rfl)
        · obtain ⟨hne, hl'⟩ := hlive j hl
          rcases hI with hI | ⟨K', hK'⟩
          · exact ok'.sep j b K hl' hb hI
          · exact ok'.inj j d' b K K' hne hl' hlive' hb hK'
        · rcases hb with hb | ⟨K', hK'⟩
          · exact ok'.lt b hb
          · exact (ok'.objs d').lt hlive' hK'
        · rcases hb with hb | ⟨K', hK'⟩
          · exact fr'.im1 b hb
          · exact .inr (fr'.own d' b K' hlive' hK')
      · exact h
    · exact h
  · exact h

include hΘ in
theorem aOp_sound (ok : MemOK M) (fr : Fr Φ M) {rd : Operand → Tr} {ρ : Operand → Value} (hr : ∀ x, VR M (rd x) (ρ x)) {L : Nat} {o : Oper} {f : Eff} (h : aOp Θ M.H L rd o.op = some f) :
    OpOK P Φ M (execOp ρ o) f.val (f.heap M.H) := by
  unfold aOp at h
  obtain ⟨f0, h0, rfl⟩ := Option.map_eq_some_iff.1 h
  exact seal_sound (aOp0_sound hΘ ok fr hr h0)

end
end Go.Proofs.Ytnonimnhninafaa.Ab

/- The walk: code seen from the trees. -/
namespace Go.Proofs.Ytnonimnhninafaa.Ab
open Go
set_option linter.unusedVariables false
set_option linter.unusedSimpArgs false

structure St where
  T : Nat → Tr
  H : Heap

def baseOf (M : Mem) : Base := ⟨M.w, fun b => ∃ d K, Live M d ∧ M.β d = some (b, K), M.Im⟩

theorem Fr.refl {M : Mem} (ok : MemOK M) : Fr (baseOf M) M where
  os := rfl
  tape := rfl
  output := rfl
  size := Nat.le_refl _
  blk _ _ _ := rfl
  own d b K hl hb := .inr ⟨d, K, hl, hb⟩
  im0 _ h := h
  im1 _ h := .inl h

theorem Fr.trans {Φ : Base} {M M' : Mem} (h : Fr Φ M) (k : Fr (baseOf M) M') (ok : MemOK M) : Fr Φ M' where
  os := k.os.trans h.os
  tape := k.tape.trans h.tape
  output := k.output.trans h.output
  size := Nat.le_trans h.size k.size
  blk b hb hL := by
    have h1 := h.size
    refine (k.blk b (Nat.lt_of_lt_of_le hb h1) ?_).trans (h.blk b hb hL)
    rintro ⟨d, K, hl, hβ⟩
    rcases h.own d b K hl hβ with h' | h'
    · omega
    · exact hL h'
  own d b K hl hb := by
    rcases k.own d b K hl hb with h' | ⟨d', K', hl', hb'⟩
    · exact .inl (Nat.le_trans h.size h')
    · exact h.own d' b K' hl' hb'
  im0 b hb := k.im0 b (h.im0 b hb)
  im1 b hb := by
    rcases k.im1 b hb with h' | h' | ⟨d, K, hl, hβ⟩
    · exact h.im1 b h'
    · exact .inr (.inl (Nat.le_trans h.size h'))
    · exact .inr (h.own d b K hl hβ)

structure Gam (M0 : Mem) (nt : Nat) (s : St) (M : Mem) (a : Act) : Prop where
  hH : M.H = s.H
  ok : MemOK M
  fr : Fr (baseOf M0) M
  mono : Mono M0 M
  tm : ∀ t, VR M (s.T t) (a.tmps.getD t undef)
  sz : a.tmps.size = nt
  df : a.defers = []

def Enters (P : Program) (f : FuncId) : Prop := ∀ args w, (callFunc f args).run P w = .ok (.enter f args) w

/-- A call of function f, seen from the trees: from whatever memory whose heap is H. -/
def CallSem (P : Program) (f : FuncId) (args : List Tr) (H : Heap) (R : Tr → Heap → Prop) : Prop :=
  Enters P f ∧ ∀ (M : Mem) (vs : Array Value), M.H = H → MemOK M → vs.size = args.length → (∀ i x, args[i]? = some x → VR M x (vs.getD i undef)) →
    Calls P f vs M.w fun e w' => ∃ v r M', e = .returned v ∧ M'.w = w' ∧ R r M'.H ∧ MemOK M' ∧ Fr (baseOf M) M' ∧ Mono M M' ∧ VR M' r v

/-- Code, seen from the trees. -/
def WP (P : Program) (nt : Nat) (c : Code) (K : Exit → St → Prop) (s : St) : Prop :=
  ∀ (M0 M : Mem) (a : Act), Gam M0 nt s M a → c.wp P (fun e a' w' => ∃ s' M', M'.w = w' ∧ K e s' ∧ Gam M0 nt s' M' a') a M.w

def putT (T : Nat → Tr) (dst : Option Tmp) (x : Tr) : Nat → Tr :=
  match dst with
  | some d => upd T d x
  | none => T

/-- The label of what an operation makes. -/
def lab (base : Nat → Nat) (dst : Option Tmp) : Nat := base (dst.getD 0)

/-- Is the destination one of the frame's slots? -/
def dstOK (nt : Nat) (dst : Option Tmp) : Bool :=
  match dst with
  | some d => decide (d < nt)
  | none => true

/-- What one operation does. -/
def wpop (P : Program) (Θ : Tab) (nt : Nat) (base : Nat → Nat) (o : Oper) (K : St → Prop) (s : St) : Prop :=
  match o.op with
  | .call { callee := .value x, args, argTypes := _ } =>
    match rdOp s.T x with
    | .clo f caps => dstOK nt o.dst = true ∧ CallSem P f (args.toList.map (rdOp s.T) ++ caps) s.H fun r H' => K { T := putT s.T o.dst r, H := H' }
    | _ => False
  | op => match aOp Θ s.H (lab base o.dst) (rdOp s.T) op with
    | some f => dstOK nt o.dst = true ∧ K { T := putT s.T o.dst f.val, H := f.heap s.H }
    | none => False

def guardT (ds : List (Option Tmp)) (T : Nat → Tr) (j : Nat) : Tr :=
  match ds[j]? with
  | some (some d) => T d
  | _ => .any

/-- The operations of a region, in order. -/
def wpo (P : Program) (Θ : Tab) (nt : Nat) (base : Nat → Nat) (ds : List (Option Tmp)) : List Oper → (St → Prop) → St → Prop
  | [], K, s => K s
  | o :: rest, K, s =>
    match o.guard with
    | none => wpop P Θ nt base o (wpo P Θ nt base ds rest K) s
    | some (j, want) =>
      match guardT ds s.T j with
      | .bool c => (c = want → wpop P Θ nt base o (wpo P Θ nt base ds rest K) s) ∧ (c = !want → dstOK nt o.dst = true ∧ wpo P Θ nt base ds rest K { T := putT s.T o.dst (.tup []), H := s.H })
      | .tup [] => dstOK nt o.dst = true ∧ wpo P Θ nt base ds rest K { T := putT s.T o.dst (.tup []), H := s.H }
      | _ => False

def inBlk (id : Nat) (K : Exit → St → Prop) : Exit → St → Prop
  | .exit id', s => if id' = id then K .normal s else K (.exit id') s
  | e, s => K e s

def thenK (next : St → Prop) (K : Exit → St → Prop) : Exit → St → Prop
  | .normal, s => next s
  | e, s => K e s

def noGo (K : Exit → St → Prop) : Exit → St → Prop
  | .goto _, _ => False
  | e, s => K e s

def wpc (P : Program) (Θ : Tab) (nt : Nat) (base : Nat → Nat) : Code → (Exit → St → Prop) → St → Prop
  | .skip, K, s => K .normal s
  | .label _, K, s => K .normal s
  | .ret, K, s => K .ret s
  | .exit id, K, s => K (.exit id) s
  | .seq a b, K, s => wpc P Θ nt base a (thenK (wpc P Θ nt base b K) K) s
  | .cond c x y, K, s =>
    match rdOp s.T c with
    | .bool b => (b = true → wpc P Θ nt base x K s) ∧ (b = false → wpc P Θ nt base y K s)
    | _ => False
  | .block id c, K, s => wpc P Θ nt base c (inBlk id K) s
  | .scope c, K, s => wpc P Θ nt base c (noGo K) s
  | .region id ops draw, K, s => if draw = true then WP P nt (.region id ops true) K s else wpo P Θ nt base (ops.toList.map (·.dst)) ops.toList (K .normal) s
  | .loop c, K, s => WP P nt (.loop c) K s
  | .rangeFunc f ps a b, K, s => WP P nt (.rangeFunc f ps a b) K s
  | .goto _, _, _ => False
  | .refuse _, _, _ => False

section
variable {P : Program} {Θ : Tab} (hΘ : TabOK P Θ)

theorem put_getD (a : Act) (dst : Option Tmp) (v : Value) (t : Nat) (h : dstOK a.tmps.size dst = true) :
    (a.put dst v).tmps.getD t undef = if dst = some t then v else a.tmps.getD t undef := by
  cases dst with
  | none => simp [Act.put]
  | some d =>
    simp only [dstOK, decide_eq_true_eq] at h
    simp only [Act.put, Array.getD_eq_getD_getElem?, Array.getElem?_setIfInBounds]
    by_cases hd : d = t
    · subst hd; simp [h]
    · simp [hd]

theorem Gam.put {M0 : Mem} {nt : Nat} {s : St} {M : Mem} {a : Act} (g : Gam M0 nt s M a) {M' : Mem} (ok : MemOK M') (fr : Fr (baseOf M0) M') (hm : Mono M M') {dst : Option Tmp} (hd : dstOK nt dst = true) {x : Tr} {v : Value} (hv : VR M' x v) :
    Gam M0 nt { T := putT s.T dst x, H := M'.H } M' (a.put dst v) where
  hH := rfl
  ok := ok
  fr := fr
  mono := g.mono.trans hm
  tm t := by
    rw [put_getD a dst v t (by rw [g.sz]; exact hd)]
    cases dst with
    | none => simpa [putT] using (g.tm t).mono hm
    | some d =>
      simp only [putT, upd, Option.some.injEq]
      by_cases h : t = d
      · subst h; simpa using hv
      · rw [if_neg h, if_neg (fun e => h e.symm)]; exact (g.tm t).mono hm
  sz := by cases dst <;> simp [Act.put, g.sz]
  df := by cases dst <;> simp [Act.put, g.df]

theorem rd_sound {M0 : Mem} {nt : Nat} {s : St} {M : Mem} {a : Act} (g : Gam M0 nt s M a) (x : Operand) : VR M (rdOp s.T x) (a.eval x) := rdOp_vr g.tm x

theorem CallSem.mono {f : FuncId} {args : List Tr} {H : Heap} {R R' : Tr → Heap → Prop} (h : CallSem P f args H R) (hr : ∀ r H', R r H' → R' r H') : CallSem P f args H R' :=
  ⟨h.1, fun M vs hH ok hs hv => (h.2 M vs hH ok hs hv).mono fun _ _ ⟨v, r, M', h1, h2, h3, h4⟩ => ⟨v, r, M', h1, h2, hr _ _ h3, h4⟩⟩

/-- The operations' posts, at the level of the model. -/
def Post (M0 : Mem) (nt : Nat) (K : St → Prop) (a : Act) (w : World) : Prop := ∃ s M, M.w = w ∧ K s ∧ Gam M0 nt s M a

theorem array_get_map {α : Type} (xs : Array α) (f : α → Value) (i : Nat) (x : α) (h : xs.toList[i]? = some x) : (xs.map f).getD i undef = f x := by
  rw [Array.getElem?_toList] at h
  simp [Array.getD_eq_getD_getElem?, Array.getElem?_map, h]

include hΘ in
theorem wpop_sound {nt : Nat} {base : Nat → Nat} {o : Oper} {K : St → Prop} {s : St} (h : wpop P Θ nt base o K s) {M0 M : Mem} {a : Act} (g : Gam M0 nt s M a) {next : Act → World → Prop} {Q : Exit → Act → World → Prop}
    (hn : ∀ a w, Post M0 nt K a w → next a w) : o.wp P a M.w next Q := by
  have prim : ∀ f, aOp Θ s.H (lab base o.dst) (rdOp s.T) o.op = some f → dstOK nt o.dst = true → K { T := putT s.T o.dst f.val, H := f.heap s.H } → o.wp P a M.w next Q := by
    intro f hf hd hK
    rw [← g.hH] at hf
    obtain ⟨v, M', hrun, hH', ok', fr', hm, hv⟩ := aOp_sound (P := P) (Φ := baseOf M0) hΘ g.ok g.fr (rd_sound g) hf
    have g' := g.put ok' fr' hm hd hv
    have hK' : K { T := putT s.T o.dst f.val, H := M'.H } := by rw [hH', g.hH]; exact hK
    unfold Oper.wp
    rcases hrun with hrun | ⟨hrun, rfl⟩
    · rw [hrun, Oper.upon_value]
      exact hn _ _ ⟨_, M', rfl, hK', g'⟩
    · rw [hrun, Oper.upon_skip]
      exact hn _ _ ⟨_, M', rfl, hK', g'⟩
  unfold wpop at h
  split at h
  · rename_i x args tys hop
    split at h
    · rename_i f caps hx
      obtain ⟨hd, hent, hc⟩ := h
      have hx' := rd_sound g x
      rw [hx] at hx'
      obtain ⟨cvs, hfv, hcs, hcv⟩ := hx'.clo_inv
      have hrun : (execOp a.eval o).run P M.w = .ok (.enter f (args.map a.eval ++ cvs)) M.w := by
        simp only [execOp, hop, resolve, Deferred.ofValue, hfv, Sem.run_bind, Sem.run_pure, Result.andThen_ok, invoke]
        simpa using hent _ M.w
      unfold Oper.wp
      rw [hrun, Oper.upon_enter]
      refine (hc M (args.map a.eval ++ cvs) g.hH g.ok (by simp [hcs]) ?_).mono ?_
      · intro i y hy
        by_cases hi : i < args.size
        · rw [List.getElem?_append_left (by simpa using hi)] at hy
          obtain ⟨c, hc, rfl⟩ := map_get _ _ _ _ hy
          have : (args.map a.eval ++ cvs).getD i undef = (args.map a.eval).getD i undef := by
            simp [Array.getD_eq_getD_getElem?, Array.getElem?_append, hi]
          rw [this, array_get_map args a.eval i c hc]
          exact rd_sound g c
        · rw [List.getElem?_append_right (by simpa using hi)] at hy
          have : (args.map a.eval ++ cvs).getD i undef = cvs.getD (i - args.size) undef := by
            simp [Array.getD_eq_getD_getElem?, Array.getElem?_append, hi]
          rw [this]
          exact hcv _ _ (by simpa using hy)
      · rintro e w' ⟨v, r, M', rfl, rfl, hR, ok', fr', hm, hv⟩
        exact hn _ _ ⟨_, M', rfl, hR, g.put ok' (g.fr.trans fr' g.ok) hm hd hv⟩
    · exact h.elim
  · split at h
    · rename_i f hf
      exact prim f hf h.1 h.2
    · exact h.elim

theorem yielded_guard {nt : Nat} {s : St} {M0 M : Mem} {a : Act} (g : Gam M0 nt s M a) (ops : Array Oper) {j : Nat} {c : Bool} (h : guardT (ops.toList.map (·.dst)) s.T j = .bool c) : yielded ops a.tmps j = some c := by
  unfold guardT at h
  unfold yielded
  split at h
  · rename_i d hd0
    have hd : (ops[j]?).bind (·.dst) = some d := by
      rw [List.getElem?_map, Array.getElem?_toList] at hd0
      cases hq : ops[j]? with
      | none => rw [hq] at hd0; simp at hd0
      | some o => rw [hq] at hd0; simpa using hd0
    have hv := (g.tm d)
    rw [h] at hv
    have hb := hv.bool_inv
    rw [hd]
    simp only [Option.bind_some]
    have : a.tmps[d]? = some (.bool c) := by
      rw [Array.getD_eq_getD_getElem?] at hb
      cases hq : a.tmps[d]? with
      | none => rw [hq] at hb; simp [undef] at hb
      | some v => rw [hq] at hb; simpa using hb
    rw [this]
  · cases h

theorem yielded_skip {nt : Nat} {s : St} {M0 M : Mem} {a : Act} (g : Gam M0 nt s M a) (ops : Array Oper) {j : Nat} (h : guardT (ops.toList.map (·.dst)) s.T j = .tup []) : yielded ops a.tmps j = none := by
  unfold guardT at h
  unfold yielded
  split at h
  · rename_i d hd0
    have hd : (ops[j]?).bind (·.dst) = some d := by
      rw [List.getElem?_map, Array.getElem?_toList] at hd0
      cases hq : ops[j]? with
      | none => rw [hq] at hd0; simp at hd0
      | some o => rw [hq] at hd0; simpa using hd0
    have hv := (g.tm d)
    rw [h] at hv
    have hb : a.tmps.getD d undef = .tuple #[] := by
      cases hv' : a.tmps.getD d undef with
      | tuple vs =>
        rw [hv'] at hv
        cases hv with
        | tup hs hl => simp at hs; simp [hs]
      | _ => rw [hv'] at hv; cases hv <;> simp_all [Tr.isAgg]
    rw [hd]
    simp only [Option.bind_some]
    rw [Array.getD_eq_getD_getElem?] at hb
    cases hq : a.tmps[d]? with
    | none => rfl
    | some v => rw [hq] at hb; simp only [Option.getD_some] at hb; rw [hb]
  · cases h

theorem VR.skip (M : Mem) : VR M (.tup []) undef := .tup rfl (fun i x hx => by simp at hx)

include hΘ in
theorem wpo_sound {nt : Nat} {base : Nat → Nat} (ops : Array Oper) {M0 : Mem} {Q : Exit → Act → World → Prop} {K : St → Prop} (hQ : ∀ a w, Post M0 nt K a w → Q .normal a w) : ∀ (l : List Oper) (s : St), wpo P Θ nt base (ops.toList.map (·.dst)) l K s →
    ∀ (M : Mem) (a : Act), Gam M0 nt s M a → wpList P ops Q l a M.w
  | [], s, h, M, a, g => hQ _ _ ⟨s, M, rfl, h, g⟩
  | o :: rest, s, h, M, a, g => by
    have next : ∀ a w, Post M0 nt (wpo P Θ nt base (ops.toList.map (·.dst)) rest K) a w → wpList P ops Q rest a w := by
      rintro a w ⟨s', M', rfl, h', g'⟩
      exact wpo_sound ops hQ rest s' h' M' a g'
    unfold wpList
    unfold wpo at h
    split at h
    · rename_i hg
      rw [if_pos (by simp [Region.wanted, hg])]
      exact .inl (wpop_sound hΘ h g next)
    · rename_i j want hg
      split at h
      · rename_i c hc
        have hy := yielded_guard g ops hc
        by_cases hcw : c = want
        · rw [if_pos (by simp [Region.wanted, hg, hy, hcw])]
          exact .inl (wpop_sound hΘ (h.1 hcw) g next)
        · rw [if_neg (by simp [Region.wanted, hg, hy, hcw])]
          obtain ⟨hd, h2⟩ := h.2 (by cases c <;> cases want <;> simp_all)
          have hH := g.hH
          refine next _ _ ⟨_, M, rfl, ?_, g.put g.ok g.fr (Mono.refl M) hd (VR.skip M)⟩
          rw [hH]
          exact h2
      · rename_i hc
        have hy := yielded_skip g ops hc
        rw [if_neg (by simp [Region.wanted, hg, hy])]
        have hH := g.hH
        refine next _ _ ⟨_, M, rfl, ?_, g.put g.ok g.fr (Mono.refl M) h.1 (VR.skip M)⟩
        rw [hH]
        exact h.2
      · exact h.elim

/-- What a code's post asks, at the level of the model. -/
def PostX (M0 : Mem) (nt : Nat) (K : Exit → St → Prop) (e : Exit) (a : Act) (w : World) : Prop := ∃ s M, M.w = w ∧ K e s ∧ Gam M0 nt s M a

theorem WP.mono {nt : Nat} {c : Code} {K K' : Exit → St → Prop} {s : St} (h : WP P nt c K s) (hk : ∀ e s, K e s → K' e s) : WP P nt c K' s :=
  fun M0 M a g => wp_mono (h M0 M a g) fun _ _ _ ⟨s', M', h1, h2, h3⟩ => ⟨s', M', h1, hk _ _ h2, h3⟩

include hΘ in
theorem wpc_sound {nt : Nat} {base : Nat → Nat} : ∀ (c : Code) (K : Exit → St → Prop) (s : St), wpc P Θ nt base c K s → WP P nt c K s
  | .skip, K, s, h => fun M0 M a g => wp_skip ⟨s, M, rfl, h, g⟩
  | .label _, K, s, h => fun M0 M a g => wp_label ⟨s, M, rfl, h, g⟩
  | .ret, K, s, h => fun M0 M a g => wp_ret ⟨s, M, rfl, h, g⟩
  | .exit id, K, s, h => fun M0 M a g => wp_exit ⟨s, M, rfl, h, g⟩
  | .seq x y, K, s, h => fun M0 M a g => by
    refine wp_seq (wp_mono (wpc_sound x _ s h M0 M a g) ?_)
    rintro e a' w' ⟨s', M', rfl, hk, g'⟩
    cases e with
    | normal => exact wpc_sound y K s' hk M0 M' a' g'
    | exit id => exact ⟨s', M', rfl, hk, g'⟩
    | goto l => exact ⟨s', M', rfl, hk, g'⟩
    | ret => exact ⟨s', M', rfl, hk, g'⟩
    | panic ch => exact ⟨s', M', rfl, hk, g'⟩
    | outgrown => exact ⟨s', M', rfl, hk, g'⟩
  | .cond c x y, K, s, h => fun M0 M a g => by
    unfold wpc at h
    split at h
    · rename_i b hb
      have hv := rd_sound g c
      rw [hb] at hv
      exact wp_cond_split hv.bool_inv (fun hb => wpc_sound x K s (h.1 hb) M0 M a g) (fun hb => wpc_sound y K s (h.2 hb) M0 M a g)
    · exact h.elim
  | .block id c, K, s, h => fun M0 M a g => by
    refine wp_block (wp_mono (wpc_sound c _ s h M0 M a g) ?_)
    rintro e a' w' ⟨s', M', rfl, hk, g'⟩
    cases e with
    | exit id' =>
      simp only [inBlk] at hk
      simp only [Exit.inBlock]
      split at hk
      · rename_i hid; rw [if_pos hid]; exact ⟨s', M', rfl, hk, g'⟩
      · rename_i hid; rw [if_neg hid]; exact ⟨s', M', rfl, hk, g'⟩
    | normal => exact ⟨s', M', rfl, hk, g'⟩
    | goto l => exact ⟨s', M', rfl, hk, g'⟩
    | ret => exact ⟨s', M', rfl, hk, g'⟩
    | panic ch => exact ⟨s', M', rfl, hk, g'⟩
    | outgrown => exact ⟨s', M', rfl, hk, g'⟩
  | .scope c, K, s, h => fun M0 M a g => by
    refine wp_scope_straight (wp_mono (wpc_sound c _ s h M0 M a g) ?_)
    rintro e a' w' ⟨s', M', rfl, hk, g'⟩
    cases e with
    | goto l => exact hk
    | normal => exact ⟨s', M', rfl, hk, g'⟩
    | exit id => exact ⟨s', M', rfl, hk, g'⟩
    | ret => exact ⟨s', M', rfl, hk, g'⟩
    | panic ch => exact ⟨s', M', rfl, hk, g'⟩
    | outgrown => exact ⟨s', M', rfl, hk, g'⟩
  | .region id ops draw, K, s, h => fun M0 M a g => by
    unfold wpc at h
    cases draw with
    | true => exact h M0 M a g
    | false =>
      simp only [Bool.false_eq_true, if_false] at h
      exact wp_region_list (wpo_sound hΘ ops (fun a w ⟨s', M', h1, h2, h3⟩ => ⟨s', M', h1, h2, h3⟩) ops.toList s h M a g)
  | .loop c, K, s, h => h
  | .rangeFunc f ps x y, K, s, h => h
  | .goto _, K, s, h => h.elim
  | .refuse _, K, s, h => h.elim

/-- A loop: a relation that bears a number, which every round lowers. -/
theorem WP.loop {nt : Nat} {c : Code} {K : Exit → St → Prop} (I : Nat → St → Prop) (n₀ : Nat) {s : St} (h₀ : I n₀ s)
    (round : ∀ n s, I n s → WP P nt c (thenK (fun s' => ∃ n', n' < n ∧ I n' s') K) s) : WP P nt (.loop c) K s := fun M0 M a g => by
  refine wp_loop_ghost (fun n a w => ∃ s M, M.w = w ∧ I n s ∧ Gam M0 nt s M a) n₀ ⟨s, M, rfl, h₀, g⟩ ?_
  rintro n a w ⟨s, M, rfl, hI, g⟩
  refine wp_mono (round n s hI M0 M a g) ?_
  rintro e a' w' ⟨s', M', rfl, hk, g'⟩
  cases e with
  | normal => obtain ⟨n', hlt, hI'⟩ := hk; exact ⟨n', hlt, s', M', rfl, hI', g'⟩
  | exit id => exact ⟨s', M', rfl, hk, g'⟩
  | goto l => exact ⟨s', M', rfl, hk, g'⟩
  | ret => exact ⟨s', M', rfl, hk, g'⟩
  | panic ch => exact ⟨s', M', rfl, hk, g'⟩
  | outgrown => exact ⟨s', M', rfl, hk, g'⟩

end
end Go.Proofs.Ytnonimnhninafaa.Ab

/- Functions: their bodies, and how a proved contract is used at a call. -/
namespace Go.Proofs.Ytnonimnhninafaa.Ab
open Go
set_option linter.unusedVariables false
set_option linter.unusedSimpArgs false

def hemp : Heap := fun _ => (0, .dead)

/-- What a result variable holds. -/
def resT (Θ : Tab) (s : St) : ResultVar → Option Tr
  | .tmp t => some (s.T t)
  | .cell a t => aLoad Θ s.H t (s.T a)

def resL (Θ : Tab) (s : St) : List ResultVar → Option (List Tr)
  | [] => some []
  | r :: rs => match resT Θ s r, resL Θ s rs with
    | some x, some xs => some (x :: xs)
    | _, _ => none

def retOf : List Tr → Tr
  | [x] => x
  | xs => .tup xs

/-- The post of a body: what the function hands back. -/
def retK (Θ : Tab) (rs : List ResultVar) (R : Tr → Heap → Prop) (e : Exit) (s : St) : Prop :=
  match e with
  | .normal => ∃ xs, resL Θ s rs = some xs ∧ R (retOf xs) s.H
  | .ret => ∃ xs, resL Θ s rs = some xs ∧ R (retOf xs) s.H
  | _ => False

def argT (args : List Tr) (t : Nat) : Tr := args.getD t .any

/-- A result variable's value, in the model. -/
def resVal (tmps : Array Value) : ResultVar → Sem Value
  | .tmp t => pure (tmps.getD t undef)
  | .cell a t => do loadVar t (← asAddr (tmps.getD a undef))

def retVal : List Value → Value
  | [v] => v
  | vs => .tuple vs.toArray

theorem results_run {P : Program} {fn : Func} {tmps : Array Value} {w : World} {vs : List Value} (h : (fn.results.toList.mapM (resVal tmps)).run P w = .ok vs w) : (results fn tmps).run P w = .ok (retVal vs) w := by
  have hf : (fun r : ResultVar => (match r with
      | .tmp t => pure (tmps.getD t undef)
      | .cell a t => do loadVar t (← asAddr (tmps.getD a undef)) : Sem Value)) = resVal tmps := by
    funext r; cases r <;> rfl
  have e : results fn tmps = (do
      let vs ← fn.results.mapM (resVal tmps)
      pure (if h : vs.size = 1 then vs[0] else .tuple vs)) := by
    rw [← hf]; rfl
  rw [e]
  simp only [Sem.run_bind, Array.mapM_eq_mapM_toList, Sem.run_map, h, Result.andThen_ok, Sem.run_pure]
  congr 1
  match vs with
  | [] => rfl
  | [v] => rfl
  | _ :: _ :: _ => rfl

section
variable {P : Program} {Θ : Tab} (hΘ : TabOK P Θ)

include hΘ in
theorem res_run {s : St} {M0 M : Mem} {nt : Nat} {a : Act} (g : Gam M0 nt s M a) : ∀ (rs : List ResultVar) (xs : List Tr), resL Θ s rs = some xs →
    ∃ vs, (rs.mapM (resVal a.tmps)).run P M.w = .ok vs M.w ∧ vs.length = xs.length ∧ ∀ (i : Nat) x, xs[i]? = some x → VR M x (vs.getD i undef)
  | [], xs, h => by
    simp only [resL, Option.some.injEq] at h
    subst h
    exact ⟨[], by simp, rfl, by simp⟩
  | r :: rs, xs, h => by
    simp only [resL] at h
    split at h
    · rename_i x xs' hx hxs
      obtain rfl := Option.some.inj h
      obtain ⟨vs, hr, hl, hv⟩ := res_run g rs xs' hxs
      have one : ∃ v, (resVal a.tmps r).run P M.w = .ok v M.w ∧ VR M x v := by
        cases r with
        | tmp t =>
          simp only [resT, Option.some.injEq] at hx
          subst hx
          exact ⟨_, rfl, g.tm t⟩
        | cell p t =>
          simp only [resT] at hx
          rw [← g.hH] at hx
          obtain ⟨u, hu, hvu⟩ := load_sound (P := P) hΘ g.ok (g.tm p) hx
          have hat : ∃ y, aAt M.H (s.T p) = some y := by
            unfold aLoad at hx
            split at hx
            · rename_i hh; exact ⟨_, hh⟩
            · cases hx
          obtain ⟨y, hy⟩ := hat
          obtain ⟨ad, hp, _⟩ := aAt_sound g.ok (g.tm p) hy
          refine ⟨u, ?_, hvu⟩
          rw [hp] at hu
          simp only [resVal, hp]
          simpa only [Instr.loadAt, Instr.sureAddr, asAddr, Sem.run_bind, Sem.run_pure, Result.andThen_ok] using hu
      obtain ⟨v, h1, h2⟩ := one
      refine ⟨v :: vs, ?_, by simp [hl], fun i y hy => ?_⟩
      · simp only [List.mapM_cons, Sem.run_bind, h1, Result.andThen_ok, hr, Sem.run_pure]
      · cases i with
        | zero => simp at hy; subst hy; simpa using h2
        | succ i => simpa using hv i y (by simpa using hy)
    · cases h

include hΘ in
/-- A function's body, walked. -/
theorem CallSem.of_body {f : FuncId} {fn : Func} {c : Code} {args : List Tr} {H : Heap} {R : Tr → Heap → Prop} (hf : P.funcs[f]? = some fn) (hb : fn.body = some c) (hent : Enters P f) (hl : args.length ≤ fn.ntmps)
    (h : WP P fn.ntmps c (retK Θ fn.results.toList R) { T := argT args, H := H }) : CallSem P f args H R := by
  refine ⟨hent, fun M vs hH ok hs hv => calls_of_wp hf hb ?_⟩
  have g : Gam M fn.ntmps { T := argT args, H := H } M { tmps := vs ++ Array.replicate (fn.ntmps - vs.size) undef, defers := [] } := by
    refine ⟨hH, ok, Fr.refl ok, Mono.refl M, fun t => ?_, by simp; omega, rfl⟩
    simp only [argT]
    by_cases ht : t < args.length
    · have h1 : args.getD t .any = args[t] := by simp [List.getD, ht]
      rw [h1]
      have h2 := hv t _ (List.getElem?_eq_getElem ht)
      have h3 : (vs ++ Array.replicate (fn.ntmps - vs.size) undef).getD t undef = vs.getD t undef := by
        simp [Array.getD_eq_getD_getElem?, Array.getElem?_append, show t < vs.size by omega]
      rw [h3]
      exact h2
    · have h1 : args.getD t .any = .any := by simp [List.getD, List.getElem?_eq_none (Nat.le_of_not_lt ht)]
      rw [h1]
      exact .any _
  refine wp_mono (h M M _ g) ?_
  rintro e a' w' ⟨s', M', rfl, hk, g'⟩
  have fin : ∀ xs, resL Θ s' fn.results.toList = some xs → R (retOf xs) s'.H → a'.defers = [] ∧ ∃ v, (results fn a'.tmps).run P M'.w = .ok v M'.w ∧ ∃ v' r M'', Ending.returned v = .returned v' ∧ M''.w = M'.w ∧ R r M''.H ∧ MemOK M'' ∧ Fr (baseOf M) M'' ∧ Mono M M'' ∧ VR M'' r v' := by
    intro xs hxs hR
    obtain ⟨ws, hrun, hwl, hwv⟩ := res_run hΘ g' _ _ hxs
    refine ⟨g'.df, retVal ws, results_run hrun, retVal ws, retOf xs, M', rfl, rfl, by rw [g'.hH]; exact hR, g'.ok, g'.fr, g'.mono, ?_⟩
    match xs, ws, hwl with
    | [], [], _ => exact .tup (by rfl) (by intro i x h; simp at h)
    | [x], [v], _ => exact hwv 0 x rfl
    | x :: y :: xs, v :: u :: ws, hwl => exact .tup (by simpa using hwl) (fun i z hz => by have := hwv i z hz; simpa [List.getD, Array.getD_eq_getD_getElem?] using this)
  cases e with
  | normal => obtain ⟨xs, hxs, hR⟩ := hk; exact fin xs hxs hR
  | ret => obtain ⟨xs, hxs, hR⟩ := hk; exact fin xs hxs hR
  | exit id => exact hk
  | goto l => exact hk
  | panic ch => exact (show False from hk).elim
  | outgrown => exact (show False from hk).elim

end

mutual
/-- A tree that names no object of the call's own. -/
def Tr.lf : Tr → Bool
  | .ptr _ _ _ _ => false
  | .own _ _ _ _ => false
  | .any => false
  | .node _ _ xs => lfL xs
  | .arr _ xs => lfL xs
  | .sl _ xs => lfL xs
  | .tup xs => lfL xs
  | .clo _ xs => lfL xs
  | .iptr x => x.lf
  | .int _ _ => true
  | .bool _ => true
  | .str _ => true
  | .nilp => true
  | .nils => true
  | .nilf => true
def lfL : List Tr → Bool
  | [] => true
  | x :: xs => x.lf && lfL xs
end

theorem lfL_iff : ∀ xs : List Tr, lfL xs = true ↔ ∀ x ∈ xs, x.lf = true
  | [] => by simp [lfL]
  | x :: xs => by simp [lfL, lfL_iff xs]

theorem lfL_map {α : Type} (f : α → Tr) (h : ∀ a, (f a).lf = true) (xs : List α) : lfL (xs.map f) = true := (lfL_iff _).2 fun x hx => by
  obtain ⟨a, _, rfl⟩ := List.mem_map.1 hx
  exact h a

theorem lfL_append (xs ys : List Tr) : lfL (xs ++ ys) = (lfL xs && lfL ys) := by
  induction xs with
  | nil => simp [lfL]
  | cons x xs ih => simp [lfL, ih, Bool.and_assoc]

mutual
theorem lf_leaves : ∀ t : Tr, t.lf = true → ∀ l ∈ t.leaves, l.lf = true
  | .node _ _ xs, h, l, hl => lfL_leaves xs (by simpa [Tr.lf] using h) l (by simpa [Tr.leaves] using hl)
  | .arr _ xs, h, l, hl => lfL_leaves xs (by simpa [Tr.lf] using h) l (by simpa [Tr.leaves] using hl)
  | .any, h, _, _ => by simp [Tr.lf] at h
  | .int .., h, l, hl => by simp only [Tr.leaves, List.mem_singleton] at hl; subst hl; exact h
  | .bool .., h, l, hl => by simp only [Tr.leaves, List.mem_singleton] at hl; subst hl; exact h
  | .str .., h, l, hl => by simp only [Tr.leaves, List.mem_singleton] at hl; subst hl; exact h
  | .nilp, h, l, hl => by simp only [Tr.leaves, List.mem_singleton] at hl; subst hl; exact h
  | .nils, h, l, hl => by simp only [Tr.leaves, List.mem_singleton] at hl; subst hl; exact h
  | .nilf, h, l, hl => by simp only [Tr.leaves, List.mem_singleton] at hl; subst hl; exact h
  | .ptr .., h, l, hl => by simp only [Tr.leaves, List.mem_singleton] at hl; subst hl; exact h
  | .iptr .., h, l, hl => by simp only [Tr.leaves, List.mem_singleton] at hl; subst hl; exact h
  | .own .., h, l, hl => by simp only [Tr.leaves, List.mem_singleton] at hl; subst hl; exact h
  | .sl .., h, l, hl => by simp only [Tr.leaves, List.mem_singleton] at hl; subst hl; exact h
  | .tup .., h, l, hl => by simp only [Tr.leaves, List.mem_singleton] at hl; subst hl; exact h
  | .clo .., h, l, hl => by simp only [Tr.leaves, List.mem_singleton] at hl; subst hl; exact h
theorem lfL_leaves : ∀ xs : List Tr, lfL xs = true → ∀ l ∈ leavesL xs, l.lf = true
  | [], _, l, hl => by simp [leavesL] at hl
  | x :: xs, h, l, hl => by
    simp only [lfL, Bool.and_eq_true] at h
    simp only [leavesL, List.mem_append] at hl
    rcases hl with hl | hl
    · exact lf_leaves x h.1 l hl
    · exact lfL_leaves xs h.2 l hl
end

/-- What a tree without objects says hangs on the world and on what never changes alone. -/
theorem VR.lf_move {M M1 : Mem} (hw : M1.w = M.w) (hI : ∀ b, M.Im b → M1.Im b) {t : Tr} {v : Value} (h : VR M t v) (hl : t.lf = true) : VR M1 t v := by
  induction h with
  | any v => simp [Tr.lf] at hl
  | int k n => exact .int k n
  | bool b => exact .bool b
  | str s => exact .str s
  | nilp => exact .nilp
  | nils => exact .nils
  | nilf => exact .nilf
  | ptr => simp [Tr.lf] at hl
  | own => simp [Tr.lf] at hl
  | @iptr x a vs hs hI' hwf hc hv ih =>
    simp only [Tr.lf] at hl
    exact .iptr vs hs (hI _ hI') hwf (by rw [hw]; exact hc) fun i l hi => ih i l hi (lf_leaves x hl l (List.mem_of_getElem? hi))
  | @sl sz xs a cap vs hcap hnil hwf hI' hc hv ih =>
    simp only [Tr.lf] at hl
    exact .sl vs hcap hnil hwf (fun ad ha hp => ⟨(hI' ad ha hp).1, hI _ (hI' ad ha hp).2⟩) (by rw [hw]; exact hc) fun i l hi => ih i l hi (lfL_leaves xs hl l (List.mem_of_getElem? hi))
  | @agg t cs ha hwf hs hv ih => exact .agg ha hwf hs fun i l hi => ih i l hi (lf_leaves t hl l (List.mem_of_getElem? hi))
  | @tup xs vs hs hv ih =>
    simp only [Tr.lf] at hl
    exact .tup hs fun i x hi => ih i x hi ((lfL_iff xs).1 hl x (List.mem_of_getElem? hi))
  | @clo f xs vs hs hv ih =>
    simp only [Tr.lf] at hl
    exact .clo hs fun i x hi => ih i x hi ((lfL_iff xs).1 hl x (List.mem_of_getElem? hi))

mutual
/-- A tree that leads to no memory. -/
def Tr.nosl : Tr → Bool
  | .node _ _ xs => noslL xs
  | .arr _ xs => noslL xs
  | .tup xs => noslL xs
  | .clo _ xs => noslL xs
  | .int _ _ => true
  | .bool _ => true
  | .str _ => true
  | .nilp => true
  | .nils => true
  | .nilf => true
  | .sl _ _ => false
  | .iptr _ => false
  | .ptr _ _ _ _ => false
  | .own _ _ _ _ => false
  | .any => false
def noslL : List Tr → Bool
  | [] => true
  | x :: xs => x.nosl && noslL xs
end

theorem noslL_iff : ∀ xs : List Tr, noslL xs = true ↔ ∀ x ∈ xs, x.nosl = true
  | [] => by simp [noslL]
  | x :: xs => by simp [noslL, noslL_iff xs]

mutual
theorem nosl_leaves : ∀ t : Tr, t.nosl = true → ∀ l ∈ t.leaves, l.nosl = true
  | .node _ _ xs, h, l, hl => noslL_leaves xs (by simpa [Tr.nosl] using h) l (by simpa [Tr.leaves] using hl)
  | .arr _ xs, h, l, hl => noslL_leaves xs (by simpa [Tr.nosl] using h) l (by simpa [Tr.leaves] using hl)
  | .any, h, _, _ => by simp [Tr.nosl] at h
  | .int .., h, l, hl => by simp only [Tr.leaves, List.mem_singleton] at hl; subst hl; exact h
  | .bool .., h, l, hl => by simp only [Tr.leaves, List.mem_singleton] at hl; subst hl; exact h
  | .str .., h, l, hl => by simp only [Tr.leaves, List.mem_singleton] at hl; subst hl; exact h
  | .nilp, h, l, hl => by simp only [Tr.leaves, List.mem_singleton] at hl; subst hl; exact h
  | .nils, h, l, hl => by simp only [Tr.leaves, List.mem_singleton] at hl; subst hl; exact h
  | .nilf, h, l, hl => by simp only [Tr.leaves, List.mem_singleton] at hl; subst hl; exact h
  | .ptr .., h, l, hl => by simp only [Tr.leaves, List.mem_singleton] at hl; subst hl; exact h
  | .iptr .., h, l, hl => by simp only [Tr.leaves, List.mem_singleton] at hl; subst hl; exact h
  | .own .., h, l, hl => by simp only [Tr.leaves, List.mem_singleton] at hl; subst hl; exact h
  | .sl .., h, l, hl => by simp only [Tr.leaves, List.mem_singleton] at hl; subst hl; exact h
  | .tup .., h, l, hl => by simp only [Tr.leaves, List.mem_singleton] at hl; subst hl; exact h
  | .clo .., h, l, hl => by simp only [Tr.leaves, List.mem_singleton] at hl; subst hl; exact h
theorem noslL_leaves : ∀ xs : List Tr, noslL xs = true → ∀ l ∈ leavesL xs, l.nosl = true
  | [], _, l, hl => by simp [leavesL] at hl
  | x :: xs, h, l, hl => by
    simp only [noslL, Bool.and_eq_true] at h
    simp only [leavesL, List.mem_append] at hl
    rcases hl with hl | hl
    · exact nosl_leaves x h.1 l hl
    · exact noslL_leaves xs h.2 l hl
end

theorem VR.nosl_move {M M1 : Mem} {t : Tr} {v : Value} (h : VR M t v) (hl : t.nosl = true) : VR M1 t v := by
  induction h with
  | any v => simp [Tr.nosl] at hl
  | int k n => exact .int k n
  | bool b => exact .bool b
  | str s => exact .str s
  | nilp => exact .nilp
  | nils => exact .nils
  | nilf => exact .nilf
  | ptr => simp [Tr.nosl] at hl
  | own => simp [Tr.nosl] at hl
  | iptr => simp [Tr.nosl] at hl
  | sl => simp [Tr.nosl] at hl
  | @agg t cs ha hwf hs hv ih => exact .agg ha hwf hs fun i l hi => ih i l hi (nosl_leaves t hl l (List.mem_of_getElem? hi))
  | @tup xs vs hs hv ih =>
    simp only [Tr.nosl] at hl
    exact .tup hs fun i x hi => ih i x hi ((noslL_iff xs).1 hl x (List.mem_of_getElem? hi))
  | @clo f xs vs hs hv ih =>
    simp only [Tr.nosl] at hl
    exact .clo hs fun i x hi => ih i x hi ((noslL_iff xs).1 hl x (List.mem_of_getElem? hi))

mutual
/-- The tree with rows of the call's own told as what they show. -/
def frz (H : Heap) (D : Nat → Bool) : Tr → Tr
  | .own d g lo len =>
    match H d with
    | (g', .row e sz xs) => if D d = true ∧ g' = g ∧ lo + len ≤ xs.length ∧ lfL ((xs.drop lo).take len) = true then .sl sz ((xs.drop lo).take len) else .own d g lo len
    | _ => .own d g lo len
  | .node sz os xs => .node sz os (frzL H D xs)
  | .arr sz xs => .arr sz (frzL H D xs)
  | .tup xs => .tup (frzL H D xs)
  | .clo f xs => .clo f (frzL H D xs)
  | .any => .any
  | .int k n => .int k n
  | .bool b => .bool b
  | .str s => .str s
  | .nilp => .nilp
  | .nils => .nils
  | .nilf => .nilf
  | .ptr d g p o => .ptr d g p o
  | .iptr x => .iptr x
  | .sl sz xs => .sl sz xs
def frzL (H : Heap) (D : Nat → Bool) : List Tr → List Tr
  | [] => []
  | x :: xs => frz H D x :: frzL H D xs
end

theorem frzL_eq (H : Heap) (D : Nat → Bool) : ∀ xs, frzL H D xs = xs.map (frz H D)
  | [] => rfl
  | x :: xs => by simp [frzL, frzL_eq H D xs]

mutual
theorem frz_lf (H : Heap) (D : Nat → Bool) : ∀ t : Tr, t.lf = true → frz H D t = t
  | .node _ _ xs, h => by simp only [frz]; rw [frzL_lf H D xs (by simpa [Tr.lf] using h)]
  | .arr _ xs, h => by simp only [frz]; rw [frzL_lf H D xs (by simpa [Tr.lf] using h)]
  | .tup xs, h => by simp only [frz]; rw [frzL_lf H D xs (by simpa [Tr.lf] using h)]
  | .clo _ xs, h => by simp only [frz]; rw [frzL_lf H D xs (by simpa [Tr.lf] using h)]
  | .own .., h => by simp [Tr.lf] at h
  | .any, _ => rfl
  | .int .., _ => rfl
  | .bool .., _ => rfl
  | .str .., _ => rfl
  | .nilp, _ => rfl
  | .nils, _ => rfl
  | .nilf, _ => rfl
  | .ptr .., _ => rfl
  | .iptr .., _ => rfl
  | .sl .., _ => rfl
theorem frzL_lf (H : Heap) (D : Nat → Bool) : ∀ xs : List Tr, lfL xs = true → frzL H D xs = xs
  | [], _ => rfl
  | x :: xs, h => by
    simp only [lfL, Bool.and_eq_true] at h
    simp only [frzL]
    rw [frz_lf H D x h.1, frzL_lf H D xs h.2]
end

theorem frz_size (H : Heap) (D : Nat → Bool) (t : Tr) : (frz H D t).size = t.size := by
  cases t <;> simp only [frz] <;> first | rfl | (simp [frzL_eq, Tr.size]; done) | skip
  split
  · split <;> rfl
  · rfl

theorem frz_isAgg (H : Heap) (D : Nat → Bool) (t : Tr) : (frz H D t).isAgg = t.isAgg := by
  cases t <;> simp only [frz] <;> first | rfl | skip
  split
  · split <;> rfl
  · rfl

mutual
theorem frz_leaves (H : Heap) (D : Nat → Bool) : ∀ t : Tr, (frz H D t).leaves = t.leaves.map (frz H D)
  | .node _ _ xs => by simp only [frz, Tr.leaves]; exact frzL_leaves H D xs
  | .arr _ xs => by simp only [frz, Tr.leaves]; exact frzL_leaves H D xs
  | .tup xs => by simp [frz, Tr.leaves]
  | .clo _ xs => by simp [frz, Tr.leaves]
  | .own d g lo len => by
    simp only [frz, Tr.leaves, List.map_cons, List.map_nil]
    split
    · split <;> simp [Tr.leaves]
    · simp [Tr.leaves]
  | .any => rfl
  | .int .. => rfl
  | .bool .. => rfl
  | .str .. => rfl
  | .nilp => rfl
  | .nils => rfl
  | .nilf => rfl
  | .ptr .. => rfl
  | .iptr .. => rfl
  | .sl .. => rfl
theorem frzL_leaves (H : Heap) (D : Nat → Bool) : ∀ xs : List Tr, leavesL (frzL H D xs) = (leavesL xs).map (frz H D)
  | [] => rfl
  | x :: xs => by simp only [frzL, leavesL, List.map_append]; rw [frz_leaves H D x, frzL_leaves H D xs]
end

theorem offsOK_frz (H : Heap) (D : Nat → Bool) : ∀ (os : List Nat) (xs : List Tr) (a sz : Nat), offsOK os xs a sz → offsOK os (frzL H D xs) a sz
  | [], [], _, _, h => h
  | o :: os, x :: xs, a, sz, h => by
    simp only [offsOK] at h
    simp only [frzL, offsOK, frz_size]
    exact ⟨h.1, offsOK_frz H D os xs _ _ h.2⟩
  | [], _ :: _, _, _, h => by simp [offsOK] at h
  | _ :: _, [], _, _, h => by simp [offsOK] at h

/-- What is told as never changing when rows are told as what they show. -/
def Mem.frozen (M : Mem) (D : Nat → Bool) : Mem := { M with Im := fun b => M.Im b ∨ ∃ d K e sz xs, D d = true ∧ (M.H d).2 = .row e sz xs ∧ M.β d = some (b, K) }

theorem frozen_mono (M : Mem) (D : Nat → Bool) : ∀ b, M.Im b → (M.frozen D).Im b := fun _ h => .inl h

mutual
theorem frz_wf {M : Mem} (ok : MemOK M) (D : Nat → Bool) : ∀ t : Tr, t.wf → (frz M.H D t).wf
  | .node _ _ xs, h => by
    simp only [Tr.wf] at h
    simp only [frz, Tr.wf]
    exact ⟨offsOK_frz _ _ _ _ _ _ h.1, frzL_wf ok D xs h.2⟩
  | .arr _ xs, h => by
    simp only [Tr.wf] at h
    simp only [frz, Tr.wf]
    refine ⟨fun x hx => ?_, frzL_wf ok D xs h.2⟩
    rw [frzL_eq] at hx
    obtain ⟨y, hy, rfl⟩ := List.mem_map.1 hx
    rw [frz_size]
    exact h.1 y hy
  | .own d g lo len, h => by
    simp only [frz]
    split
    · rename_i g' e sz xs hd
      split
      · have ho := ok.objs d
        unfold ObjR at ho
        rw [hd] at ho
        simp only [Tr.wf]
        exact ⟨fun x hx => (ho.2.1 x (List.mem_of_mem_drop (List.mem_of_mem_take hx))).2, (wfL_iff _).2 fun x hx => (ho.2.1 x (List.mem_of_mem_drop (List.mem_of_mem_take hx))).1⟩
      · exact h
    · exact h
  | .tup xs, h => by simp [Tr.wf] at h
  | .clo _ xs, h => h
  | .any, h => h
  | .int .., h => h
  | .bool .., h => h
  | .str .., h => h
  | .nilp, h => h
  | .nils, h => h
  | .nilf, h => h
  | .ptr .., h => h
  | .iptr .., h => h
  | .sl .., h => h
theorem frzL_wf {M : Mem} (ok : MemOK M) (D : Nat → Bool) : ∀ xs : List Tr, wfL xs → wfL (frzL M.H D xs)
  | [], _ => trivial
  | x :: xs, h => by
    simp only [wfL] at h
    simp only [frzL, wfL]
    exact ⟨frz_wf ok D x h.1, frzL_wf ok D xs h.2⟩
end

theorem VR.frz {M : Mem} (ok : MemOK M) (D : Nat → Bool) {t : Tr} {v : Value} (h : VR M t v) : VR (M.frozen D) (frz M.H D t) v := by
  have move : ∀ {t : Tr} {v : Value}, VR M t v → VR (M.frozen D) t v := fun h => h.mono (M' := M.frozen D) ⟨frozen_mono M D, fun _ _ => rfl, fun _ => Nat.le_refl _, fun _ _ => ⟨rfl, fun _ _ xs h => ⟨xs, h⟩⟩⟩
  induction h with
  | any v => exact .any v
  | int k n => exact .int k n
  | bool b => exact .bool b
  | str s => exact .str s
  | nilp => exact .nilp
  | nils => exact .nils
  | nilf => exact .nilf
  | ptr h1 hg h => exact move (.ptr h1 hg h)
  | iptr vs hs hI hw hc hl ih => exact move (.iptr vs hs hI hw hc hl)
  | sl vs hcap hnil hw hI hc hl ih => exact move (.sl vs hcap hnil hw hI hc hl)
  | @own d g lo len v h1 hg h =>
    have hv : VR M (.own d g lo len) v := .own h1 hg h
    simp only [Ab.frz]
    split
    · rename_i g' e sz xs hd
      split
      · rename_i hc
        obtain ⟨hD, rfl, hle, hlf⟩ := hc
        have hel : aElems M.H sz (.own d g' lo len) = some ((xs.drop lo).take len) := by simp [aElems, hd, hle]
        obtain ⟨a, cap, news, rfl, hcap, hnil, hyw, hnl, hnews, hnh⟩ := elems_sound ok hv hel
        have hll : ((xs.drop lo).take len).length = len := by simp; omega
        refine .sl (fun j => news.getD j undef) hcap hnil hyw (fun ad ha hp => ?_) (fun i l hi => ?_) (fun i l hi => ?_)
        · have ho := hv.own_inv hd
          unfold OwnV at ho
          cases hβ : M.β d with
          | none => rw [hβ] at ho; omega
          | some bK =>
            obtain ⟨b, K⟩ := bK
            rw [hβ] at ho
            obtain ⟨ad', e1, hK, had⟩ := ho
            simp only [Value.slice.injEq] at e1
            obtain ⟨e1, _, _⟩ := e1
            rw [ha] at e1
            obtain rfl := Option.some.inj e1
            rw [had (by omega)]
            exact ⟨rfl, .inr ⟨d, K, e, sz, xs, hD, by rw [hd], hβ⟩⟩
        · have hyl : (leavesL ((xs.drop lo).take len)).length = news.length := by rw [hnl, leavesL_length _ ((wfL_iff _).2 fun z hz => (hyw z hz).1), sum_size_const sz _ (fun z hz => (hyw z hz).2), Nat.mul_comm]
          have hil : i < news.length := by have := (List.getElem?_eq_some_iff.1 hi).1; omega
          obtain ⟨ad, e1, e2⟩ := hnews i _ (List.getElem?_eq_getElem hil)
          refine ⟨ad, e1, ?_⟩
          simp only [List.getD, List.getElem?_eq_getElem hil, Option.getD_some]
          exact e2
        · have := hnh i l hi
          simp only [Array.getD_eq_getD_getElem?, List.getElem?_toArray] at this
          exact move this
      · exact move hv
    · exact move hv
  | @agg t cs ha hw hs hl ih =>
    refine .agg (by rw [frz_isAgg]; exact ha) (frz_wf ok D t hw) (by rw [frz_size]; exact hs) fun i l hi => ?_
    rw [frz_leaves, List.getElem?_map] at hi
    obtain ⟨l', hl', rfl⟩ := Option.map_eq_some_iff.1 hi
    exact ih i l' hl'
  | @tup xs vs hs hl ih =>
    simp only [Ab.frz, frzL_eq]
    refine .tup (by simpa using hs) fun i x hx => ?_
    rw [List.getElem?_map] at hx
    obtain ⟨y, hy, rfl⟩ := Option.map_eq_some_iff.1 hx
    exact ih i y hy
  | @clo f xs vs hs hl ih =>
    simp only [Ab.frz, frzL_eq]
    refine .clo (by simpa using hs) fun i x hx => ?_
    rw [List.getElem?_map] at hx
    obtain ⟨y, hy, rfl⟩ := Option.map_eq_some_iff.1 hx
    exact ih i y hy

end Go.Proofs.Ytnonimnhninafaa.Ab

/- How a proved contract is used at a call. -/
namespace Go.Proofs.Ytnonimnhninafaa.Ab
open Go
set_option linter.unusedVariables false
set_option linter.unusedSimpArgs false

section
variable {P : Program}

/-- A contract: what a call does that is handed no object of its caller's own. -/
abbrev ACall (P : Program) (f : FuncId) (args : List Tr) (R : Tr → Heap → Prop) : Prop := CallSem P f args hemp R

theorem memOK_bare (w : World) (Im : Nat → Prop) (β : Nat → Option (Nat × Nat)) (h : ∀ b, Im b → b < w.heap.size) : MemOK ⟨w, Im, β, hemp⟩ where
  objs d := by unfold ObjR; simp [hemp]
  inj d d' b K K' _ h1 := by simp [Live, hemp] at h1
  sep d b K h1 := by simp [Live, hemp] at h1
  lt := h

/-- The rows of D are given up: what they showed never changes any more. -/
def kill (D : Nat → Bool) (H : Heap) : Heap := fun d =>
  if D d = true then match H d with
    | (g, .row _ _ _) => (g + 1, .dead)
    | x => x
  else H d

theorem kill_none (H : Heap) : kill (fun _ => false) H = H := by funext d; simp [kill]

theorem frozen_lt {M : Mem} (ok : MemOK M) (D : Nat → Bool) (b : Nat) (h : (M.frozen D).Im b) : b < M.w.heap.size := by
  rcases h with h | ⟨d, K, e, sz, xs, hD, hr, hb⟩
  · exact ok.lt b h
  · exact (ok.objs d).lt (by unfold Live; rw [hr]; simp) hb

/-- Behind a call that was handed what rows showed: the caller's memory, rows of D given up. -/
theorem after_call {M M1' : Mem} (ok : MemOK M) (D : Nat → Bool) (fr : Fr (baseOf ⟨M.w, (M.frozen D).Im, fun _ => none, hemp⟩) M1') (lt1 : ∀ b, M1'.Im b → b < M1'.w.heap.size) :
    let M' : Mem := ⟨M1'.w, M1'.Im, M.β, kill D M.H⟩
    MemOK M' ∧ Fr (baseOf M) M' ∧ Mono M M' := by
  intro M'
  have hkeep : ∀ b, b < M.w.heap.size → M1'.w.heap[b]? = M.w.heap[b]? := fun b hb => fr.blk b hb (by rintro ⟨d, K, hl, hβ⟩; simp at hβ)
  have hlive : ∀ d, Live M' d → Live M d ∧ M'.H d = M.H d := by
    intro d hl
    simp only [M', Live, kill] at hl ⊢
    by_cases hD : D d = true
    · rw [if_pos hD] at hl ⊢
      cases hh : M.H d with
      | mk g o =>
        rw [hh] at hl
        cases o with
        | dead => simp at hl
        | cells t => simp
        | row e sz xs => simp at hl
    · rw [if_neg hD] at hl ⊢
      exact ⟨hl, rfl⟩
  have hm : Mono M M' := by
    refine ⟨fun b hb => fr.im0 b (.inl hb), fun b hb => hkeep b (ok.lt b hb), fun d => ?_, fun d h => ?_⟩
    · simp only [M', kill]
      split
      · cases hh : M.H d with
        | mk g o => cases o <;> simp
      · exact Nat.le_refl _
    · refine ⟨rfl, ?_⟩
      simp only [M', kill] at h ⊢
      split at h
      · rename_i hD
        rw [if_pos hD]
        cases hh : M.H d with
        | mk g o =>
          rw [hh] at h
          cases o with
          | dead => exact fun _ _ xs h => ⟨xs, h⟩
          | cells t => exact fun _ _ xs h => ⟨xs, h⟩
          | row e sz xs => simp at h
      · rename_i hD
        rw [if_neg hD]
        exact fun _ _ xs h => ⟨xs, h⟩
  have hnot : ∀ d b K, Live M' d → M.β d = some (b, K) → ¬ M1'.Im b := by
    intro d b K hl hb hI
    obtain ⟨hl0, hHd⟩ := hlive d hl
    have hblt := (ok.objs d).lt hl0 hb
    rcases fr.im1 b hI with h | h | ⟨d', K', hl', hb'⟩
    · rcases h with h | ⟨d', K', e, sz, xs, hD, hr, hb'⟩
      · exact ok.sep d b K hl0 hb h
      · by_cases hdd : d = d'
        · subst hdd
          simp only [M', Live, kill, if_pos hD] at hl
          cases hh : M.H d with
          | mk g o => rw [hh] at hl hr; simp only at hr; subst hr; simp at hl
        · exact ok.inj d d' b K K' hdd hl0 (by unfold Live; rw [hr]; simp) hb hb'
    · have h' : M.w.heap.size ≤ b := h
      omega
    · simp at hb'
  refine ⟨⟨fun d => ?_, fun d d' b K K' hne l1 l2 e1 e2 => ok.inj d d' b K K' hne (hlive d l1).1 (hlive d' l2).1 e1 e2, fun d b K l1 e1 => hnot d b K l1 e1, lt1⟩,
    ⟨fr.os, fr.tape, fr.output, fr.size, fun b hb _ => hkeep b hb, fun d b K l1 e1 => .inr ⟨d, K, (hlive d l1).1, e1⟩, fun b hb => fr.im0 b (.inl hb), fun b hb => ?_⟩, hm⟩
  · by_cases hl : Live M' d
    · obtain ⟨hl0, hHd⟩ := hlive d hl
      exact (ok.objs d).mono hm hHd (fun b K hb _ => hkeep b ((ok.objs d).lt hl0 hb))
    · unfold Live at hl
      simp only [ne_eq, Classical.not_not] at hl
      unfold ObjR
      rw [hl]
      trivial
  · rcases fr.im1 b hb with h | h | ⟨d', K', hl', hb'⟩
    · rcases h with h | ⟨d', K', e, sz, xs, hD, hr, hb'⟩
      · exact .inl h
      · exact .inr (.inr ⟨d', K', by unfold Live; rw [hr]; simp, hb'⟩)
    · exact .inr (.inl h)
    · simp at hb'

theorem args_frz {M : Mem} (ok : MemOK M) (D : Nat → Bool) {args : List Tr} {vs : Array Value} (hv : ∀ (i : Nat) x, args[i]? = some x → VR M x (vs.getD i undef)) (hlf : ∀ x ∈ args.map (frz M.H D), x.lf = true)
    (β : Nat → Option (Nat × Nat)) (H : Heap) : ∀ (i : Nat) x, (args.map (frz M.H D))[i]? = some x → VR ⟨M.w, (M.frozen D).Im, β, H⟩ x (vs.getD i undef) := by
  intro i x hx
  have hl := hlf x (List.mem_of_getElem? hx)
  rw [List.getElem?_map] at hx
  obtain ⟨y, hy, rfl⟩ := Option.map_eq_some_iff.1 hx
  exact VR.lf_move (M := M.frozen D) (M1 := ⟨M.w, (M.frozen D).Im, β, H⟩) rfl (fun _ h => h) ((hv i y hy).frz ok D) hl

/-- A contract is used: what rows of D show is handed on; those rows are given up. -/
theorem CallSem.pure (D : Nat → Bool) {f : FuncId} {args args' : List Tr} {H : Heap} {R : Tr → Heap → Prop} {R' : Tr → Prop} (h : ACall P f args' R) (hargs : args' = args.map (frz H D)) (hlf : lfL args' = true)
    (hR : ∀ r H', R r H' → (frz H' (fun _ => true) r).lf = true ∧ R' (frz H' (fun _ => true) r)) : CallSem P f args H fun r H' => R' r ∧ H' = kill D H := by
  refine ⟨h.1, fun M vs hH ok hs hv => ?_⟩
  subst hH
  let M1 : Mem := ⟨M.w, (M.frozen D).Im, fun _ => none, hemp⟩
  have hlf' := (lfL_iff _).1 hlf
  rw [hargs] at hlf'
  refine (h.2 M1 vs rfl (memOK_bare _ _ _ (frozen_lt ok D)) (by rw [hargs]; simpa using hs) (by rw [hargs]; exact args_frz ok D hv hlf' _ _)).mono ?_
  rintro e w' ⟨v, r, M1', rfl, rfl, hr, ok1, fr1, hm1, hv1⟩
  obtain ⟨hl, hR'⟩ := hR _ _ hr
  let M1f : Mem := M1'.frozen fun _ => true
  have fr1f : Fr (baseOf M1) M1f := ⟨fr1.os, fr1.tape, fr1.output, fr1.size, fr1.blk, fr1.own, fun b hb => .inl (fr1.im0 b hb), fun b hb => by
    rcases hb with hb | ⟨d, K, e, sz, xs, _, hr', hb⟩
    · exact fr1.im1 b hb
    · exact .inr (fr1.own d b K (by unfold Live; rw [hr']; simp) hb)⟩
  obtain ⟨okf, frf, mf⟩ := after_call ok D fr1f (frozen_lt ok1 _)
  exact ⟨v, _, (⟨M1f.w, M1f.Im, M.β, kill D M.H⟩ : Mem), rfl, rfl, ⟨hR', rfl⟩, okf, frf, mf, VR.lf_move (M := M1f) (M1 := ⟨M1f.w, M1f.Im, M.β, kill D M.H⟩) rfl (fun _ h => h) (hv1.frz ok1 _) hl⟩

/-- A contract is used, nothing given up: what is handed back leads to no memory. -/
theorem CallSem.borrow (D : Nat → Bool) {f : FuncId} {args args' : List Tr} {H : Heap} {R : Tr → Heap → Prop} {R' : Tr → Prop} (h : ACall P f args' R) (hargs : args' = args.map (frz H D)) (hlf : lfL args' = true)
    (hR : ∀ r H', R r H' → r.nosl = true ∧ R' r) : CallSem P f args H fun r H' => R' r ∧ H' = H := by
  refine ⟨h.1, fun M vs hH ok hs hv => ?_⟩
  subst hH
  let M1 : Mem := ⟨M.w, (M.frozen D).Im, fun _ => none, hemp⟩
  have hlf' := (lfL_iff _).1 hlf
  rw [hargs] at hlf'
  refine (h.2 M1 vs rfl (memOK_bare _ _ _ (frozen_lt ok D)) (by rw [hargs]; simpa using hs) (by rw [hargs]; exact args_frz ok D hv hlf' _ _)).mono ?_
  rintro e w' ⟨v, r, M1', rfl, rfl, hr, ok1, fr1, hm1, hv1⟩
  obtain ⟨hl, hR'⟩ := hR _ _ hr
  have hkeep : ∀ b, b < M.w.heap.size → M1'.w.heap[b]? = M.w.heap[b]? := fun b hb => fr1.blk b hb (by rintro ⟨d, K, hl, hβ⟩; simp [M1] at hβ)
  let M' : Mem := ⟨M1'.w, M.Im, M.β, M.H⟩
  have hm : Mono M M' := ⟨fun _ h => h, fun b hb => hkeep b (ok.lt b hb), fun _ => Nat.le_refl _, fun _ _ => ⟨rfl, fun _ _ xs h => ⟨xs, h⟩⟩⟩
  refine ⟨v, r, M', rfl, rfl, ⟨hR', rfl⟩, ⟨fun d => ?_, ok.inj, ok.sep, fun b hb => ?_⟩, ⟨fr1.os, fr1.tape, fr1.output, fr1.size, fun b hb _ => hkeep b hb, fun d b K l1 e1 => .inr ⟨d, K, l1, e1⟩, fun b hb => hb, fun b hb => .inl hb⟩, hm, hv1.nosl_move hl⟩
  · by_cases hl : Live M d
    · exact (ok.objs d).mono hm rfl (fun b K hb _ => hkeep b ((ok.objs d).lt hl hb))
    · unfold Live at hl
      simp only [ne_eq, Classical.not_not] at hl
      unfold ObjR
      simp only [M', hl]
  · have h1 := ok.lt b hb
    have h2 := fr1.size
    have h3 : M.w.heap.size ≤ M1'.w.heap.size := h2
    exact Nat.lt_of_lt_of_le h1 h3


/-- A contract is used that hands back a row of its own: it becomes the caller's, under label L. -/
theorem CallSem.owned (D : Nat → Bool) (L : Nat) {f : FuncId} {args args' : List Tr} {H : Heap} {R : Tr → Heap → Prop} {R' : TypeId → Nat → List Tr → Prop} (h : ACall P f args' R) (hargs : args' = args.map (frz H D)) (hlf : lfL args' = true)
    (hR : ∀ r H', R r H' → ∃ d g e sz xs, r = .own d g 0 xs.length ∧ H' d = (g, .row e sz xs) ∧ lfL xs = true ∧ R' e sz xs) :
    CallSem P f args H fun r H' => ∃ e sz xs, R' e sz xs ∧ r = .own L ((kill D H L).1 + 1) 0 xs.length ∧ H' = upd (kill D H) L ((kill D H L).1 + 1, .row e sz xs) := by
  refine ⟨h.1, fun M vs hH ok hs hv => ?_⟩
  subst hH
  let M1 : Mem := ⟨M.w, (M.frozen D).Im, fun _ => none, hemp⟩
  have hlf' := (lfL_iff _).1 hlf
  rw [hargs] at hlf'
  refine (h.2 M1 vs rfl (memOK_bare _ _ _ (frozen_lt ok D)) (by rw [hargs]; simpa using hs) (by rw [hargs]; exact args_frz ok D hv hlf' _ _)).mono ?_
  rintro e w' ⟨v, r, M1', rfl, rfl, hr, ok1, fr1, hm1, hv1⟩
  obtain ⟨d, g, e, sz, xs, rfl, hd, hl, hR'⟩ := hR _ _ hr
  obtain ⟨okf, frf, mf⟩ := after_call ok D fr1 ok1.lt
  let M2 : Mem := ⟨M1'.w, M1'.Im, M.β, kill D M.H⟩
  let M3 : Mem := ⟨M1'.w, M1'.Im, upd M.β L (M1'.β d), upd (kill D M.H) L ((kill D M.H L).1 + 1, .row e sz xs)⟩
  have hlf2 := (lfL_iff _).1 hl
  have hm : Mono M2 M3 := ⟨fun _ h => h, fun _ _ => rfl, fun d' => by
      simp only [M2, M3, upd]; split
      · rename_i hh; subst hh; simp
      · exact Nat.le_refl _, fun d' hh => by
      simp only [M2, M3, upd] at hh ⊢
      by_cases hd' : d' = L
      · subst hd'; simp at hh
      · simp only [hd', if_false]; exact ⟨trivial, fun _ _ xs hx => ⟨xs, hx⟩⟩⟩
  have hlive : ∀ d', d' ≠ L → Live M3 d' → Live M2 d' := fun d' hne hl => by simpa [M2, M3, Live, upd, hne] using hl
  have hrow := ok1.objs d
  unfold ObjR at hrow
  rw [hd] at hrow
  have hdl : Live M1' d := by unfold Live; rw [hd]; simp
  have hfresh : ∀ b K, M1'.β d = some (b, K) → M.w.heap.size ≤ b := fun b K hb => by
    rcases fr1.own d b K hdl hb with h' | ⟨_, _, _, h'⟩
    · exact h'
    · simp [M1] at h'
  have hlv : ∀ d', Live M2 d' → Live M d' := by
    intro d' hl
    simp only [M2, Live, kill] at hl ⊢
    by_cases hD : D d' = true
    · rw [if_pos hD] at hl
      cases hh : M.H d' with
      | mk g o =>
        rw [hh] at hl
        cases o with
        | dead => simp at hl
        | cells t => simp
        | row e sz xs => simp
    · rw [if_neg hD] at hl
      exact hl
  have hold : ∀ d' b K, d' ≠ L → Live M3 d' → M3.β d' = some (b, K) → b < M.w.heap.size ∧ M.β d' = some (b, K) := fun d' b K hne hl hb => by
    have hb' : M.β d' = some (b, K) := by simpa [M3, upd, hne] using hb
    exact ⟨(ok.objs d').lt (hlv d' (hlive d' hne hl)) hb', hb'⟩
  have hvr : VR M3 (.own L ((kill D M.H L).1 + 1) 0 xs.length) v := by
    have ho := hv1.own_inv hd
    refine .own (by cases hv1 with | own h1 _ _ => exact h1 | agg ha => simp [Tr.isAgg] at ha) (by simp [M3]) fun e2 sz2 xs2 hd2 => ?_
    simp only [M3, upd_same, Prod.mk.injEq, true_and, AObj.row.injEq] at hd2
    obtain ⟨rfl, rfl, rfl⟩ := hd2
    simpa [M3] using ho
  have hobj : ObjR M3 L := by
    unfold ObjR
    simp only [M3, upd_same]
    refine ⟨hrow.1, hrow.2.1, ?_⟩
    cases hb : M1'.β d with
    | none => rw [hb] at hrow; exact hrow.2.2
    | some bK =>
      obtain ⟨b, K⟩ := bK
      rw [hb] at hrow
      obtain ⟨c, h1, h2, h3, h4, h5⟩ := hrow.2.2
      refine ⟨c, h1, h2, h3, h4, fun i l hi => ?_⟩
      refine VR.lf_move (M := M1') ?_ ?_ (h5 i l hi) (lfL_leaves xs hl l (List.mem_of_getElem? hi))
      · rfl
      · exact fun _ h => h
  refine ⟨v, _, M3, rfl, rfl, ⟨e, sz, xs, hR', rfl, rfl⟩, ⟨fun d' => ?_, fun d1 d2 b K K' hne l1 l2 e1 e2 => ?_, fun d' b K l1 e1 => ?_, okf.lt⟩,
    ⟨frf.os, frf.tape, frf.output, frf.size, frf.blk, fun d' b K l1 e1 => ?_, frf.im0, frf.im1⟩, mf.trans hm, hvr⟩
  · by_cases hd' : d' = L
    · subst hd'; exact hobj
    · exact (okf.objs d').mono hm (by simp [M3, M2, upd, hd']) (fun _ _ _ _ => rfl)
  · by_cases h1 : d1 = L
    · have h2 : d2 ≠ L := fun e => hne (h1.trans e.symm)
      subst h1
      have e1' : M1'.β d = some (b, K) := by simpa [M3] using e1
      have := hfresh b K e1'
      have := (hold d2 b K' h2 l2 e2).1
      omega
    · by_cases h2 : d2 = L
      · subst h2
        have e2' : M1'.β d = some (b, K') := by simpa [M3] using e2
        have := hfresh b K' e2'
        have := (hold d1 b K h1 l1 e1).1
        omega
      · refine okf.inj d1 d2 b K K' hne (hlive d1 h1 l1) (hlive d2 h2 l2) ?_ ?_
        · simpa [M3, upd, h1] using e1
        · simpa [M3, upd, h2] using e2
  · by_cases hd' : d' = L
    · subst hd'
      have e1' : M1'.β d = some (b, K) := by simpa [M3] using e1
      exact ok1.sep d b K hdl e1'
    · exact okf.sep d' b K (hlive d' hd' l1) (by simpa [M3, upd, hd'] using e1)
  · by_cases hd' : d' = L
    · subst hd'
      have e1' : M1'.β d = some (b, K) := by simpa [M3] using e1
      exact .inl (hfresh b K e1')
    · exact frf.own d' b K (hlive d' hd' l1) (by simpa [M3, upd, hd'] using e1)

end
end Go.Proofs.Ytnonimnhninafaa.Ab

/- Tables of types: what the kernel can reckon. -/
namespace Go.Proofs.Ytnonimnhninafaa.Ab
open Go
set_option linter.unusedVariables false
set_option linter.unusedSimpArgs false

def offsB : List Nat → List Tr → Nat → Nat → Bool
  | [], [], a, sz => a == sz
  | o :: os, x :: xs, a, sz => o == a && offsB os xs (a + x.size) sz
  | _, _, _, _ => false

theorem offsB_ok : ∀ (os : List Nat) (xs : List Tr) (a sz : Nat), offsB os xs a sz = true → offsOK os xs a sz
  | [], [], a, sz, h => by simpa [offsB, offsOK] using h
  | o :: os, x :: xs, a, sz, h => by
    simp only [offsB, Bool.and_eq_true, beq_iff_eq] at h
    exact ⟨h.1, offsB_ok os xs _ _ h.2⟩
  | [], _ :: _, _, _, h => by simp [offsB] at h
  | _ :: _, [], _, _, h => by simp [offsB] at h

mutual
def Tr.wfB : Tr → Bool
  | .node sz offs xs => offsB offs xs 0 sz && wfBL xs
  | .arr sz xs => (xs.all fun x => x.size == sz) && wfBL xs
  | .sl sz xs => (xs.all fun x => x.size == sz) && wfBL xs
  | .iptr x => x.wfB
  | .any => false
  | .tup _ => false
  | .int _ _ => true
  | .bool _ => true
  | .str _ => true
  | .nilp => true
  | .nils => true
  | .nilf => true
  | .ptr _ _ _ _ => true
  | .own _ _ _ _ => true
  | .clo _ _ => true
def wfBL : List Tr → Bool
  | [] => true
  | x :: xs => x.wfB && wfBL xs
end

mutual
theorem wfB_ok : ∀ t : Tr, t.wfB = true → t.wf
  | .node sz offs xs, h => by
    simp only [Tr.wfB, Bool.and_eq_true] at h
    simp only [Tr.wf]
    exact ⟨offsB_ok _ _ _ _ h.1, wfBL_ok xs h.2⟩
  | .arr sz xs, h => by
    simp only [Tr.wfB, Bool.and_eq_true, List.all_eq_true, beq_iff_eq] at h
    simp only [Tr.wf]
    exact ⟨h.1, wfBL_ok xs h.2⟩
  | .sl sz xs, h => by
    simp only [Tr.wfB, Bool.and_eq_true, List.all_eq_true, beq_iff_eq] at h
    simp only [Tr.wf]
    exact ⟨h.1, wfBL_ok xs h.2⟩
  | .iptr x, h => wfB_ok x h
  | .any, h => by simp [Tr.wfB] at h
  | .tup _, h => by simp [Tr.wfB] at h
  | .int .., _ => trivial
  | .bool .., _ => trivial
  | .str .., _ => trivial
  | .nilp, _ => trivial
  | .nils, _ => trivial
  | .nilf, _ => trivial
  | .ptr .., _ => trivial
  | .own .., _ => trivial
  | .clo .., _ => trivial
theorem wfBL_ok : ∀ xs : List Tr, wfBL xs = true → wfL xs
  | [], _ => trivial
  | x :: xs, h => by
    simp only [wfBL, Bool.and_eq_true] at h
    exact ⟨wfB_ok x h.1, wfBL_ok xs h.2⟩
end

def zeroB (i : TyI) : Bool := i.zero.wfB && i.zero.size == i.size && (i.zero.isAgg == i.kind.isAgg) && i.zero.leaves.all Tr.isConst

theorem TyOK.info_of {P : Program} {t : TypeId} {i : TyI} {inf : TypeInfo} (h : P.info? t = some inf) (h1 : inf.size = i.size) (h2 : inf.bytes = i.bytes) (hb : zeroB i = true) {z : Value} (hz : inf.zero = some z) (hc : z.cells.toList = i.zero.leaves.map Tr.constVal) :
    ∃ inf, P.info? t = some inf ∧ inf.size = i.size ∧ inf.bytes = i.bytes ∧
    (i.zero.good = true → i.zero.wf ∧ i.zero.size = i.size ∧ i.zero.isAgg = i.kind.isAgg ∧ (∀ l ∈ i.zero.leaves, l.isConst = true) ∧ ∃ z, inf.zero = some z ∧ z.cells.toList = i.zero.leaves.map Tr.constVal) := by
  simp only [zeroB, Bool.and_eq_true, beq_iff_eq, List.all_eq_true] at hb
  exact ⟨inf, h, h1, h2, fun _ => ⟨wfB_ok _ hb.1.1.1, hb.1.1.2, hb.1.2, hb.2, z, hz, hc⟩⟩

theorem TyOK.info_any {P : Program} {t : TypeId} {i : TyI} {inf : TypeInfo} (h : P.info? t = some inf) (h1 : inf.size = i.size) (h2 : inf.bytes = i.bytes) (ha : i.zero = .any) :
    ∃ inf, P.info? t = some inf ∧ inf.size = i.size ∧ inf.bytes = i.bytes ∧
    (i.zero.good = true → i.zero.wf ∧ i.zero.size = i.size ∧ i.zero.isAgg = i.kind.isAgg ∧ (∀ l ∈ i.zero.leaves, l.isConst = true) ∧ ∃ z, inf.zero = some z ∧ z.cells.toList = i.zero.leaves.map Tr.constVal) :=
  ⟨inf, h, h1, h2, fun hg => by rw [ha] at hg; simp [Tr.good] at hg⟩

end Go.Proofs.Ytnonimnhninafaa.Ab
