/- Trees of Go values: the abstract values of the calculus, their leaves, their parts. -/
import Derived.Laws.OwnMore
import Derived.Laws.CopyOwn
import Derived.Laws.StructEq
import Derived.Deep.MidRow
import Derived.Deep.LoopGhost
import Derived.Below
import Derived.Tactics
import Derived.Still
namespace Go.Proofs.Ytnonimnhninafaa.Ab
open Go
set_option linter.unusedVariables false
set_option linter.unusedSimpArgs false

/-- A tree: what is known of a Go value. -/
inductive Tr where
  | any
  | int (k : IntKind) (n : Int)
  | bool (b : Bool)
  | str (s : ByteArray)
  | nilp
  | nils
  | nilf
  | ptr (d g : Nat) (p : List Nat) (off : Nat)
  | iptr (x : Tr)
  | own (d g lo len : Nat)
  | sl (sz : Nat) (xs : List Tr)
  | node (sz : Nat) (offs : List Nat) (xs : List Tr)
  | arr (sz : Nat) (xs : List Tr)
  | tup (xs : List Tr)
  | clo (f : FuncId) (caps : List Tr)
  deriving Inhabited

def Tr.size : Tr → Nat
  | .node sz _ _ => sz
  | .arr sz xs => sz * xs.length
  | _ => 1

@[simp] theorem size_node (sz : Nat) (offs : List Nat) (xs : List Tr) : (Tr.node sz offs xs).size = sz := rfl
@[simp] theorem size_arr (sz : Nat) (xs : List Tr) : (Tr.arr sz xs).size = sz * xs.length := rfl

mutual
def Tr.leaves : Tr → List Tr
  | .node _ _ xs => leavesL xs
  | .arr _ xs => leavesL xs
  | .any => [.any]
  | .int k n => [.int k n]
  | .bool b => [.bool b]
  | .str s => [.str s]
  | .nilp => [.nilp]
  | .nils => [.nils]
  | .nilf => [.nilf]
  | .ptr d g p o => [.ptr d g p o]
  | .iptr x => [.iptr x]
  | .own d g l n => [.own d g l n]
  | .sl sz xs => [.sl sz xs]
  | .tup xs => [.tup xs]
  | .clo f xs => [.clo f xs]
def leavesL : List Tr → List Tr
  | [] => []
  | x :: xs => x.leaves ++ leavesL xs
end

def offsOK : List Nat → List Tr → Nat → Nat → Prop
  | [], [], a, sz => a = sz
  | o :: os, x :: xs, a, sz => o = a ∧ offsOK os xs (a + x.size) sz
  | _, _, _, _ => False

mutual
def Tr.wf : Tr → Prop
  | .node sz offs xs => offsOK offs xs 0 sz ∧ wfL xs
  | .arr sz xs => (∀ x ∈ xs, x.size = sz) ∧ wfL xs
  | .sl sz xs => (∀ x ∈ xs, x.size = sz) ∧ wfL xs
  | .iptr x => x.wf
  | .any => False
  | .tup _ => False
  | _ => True
def wfL : List Tr → Prop
  | [] => True
  | x :: xs => x.wf ∧ wfL xs
end

/-- Is a tree an aggregate (several cells by value)? -/
def Tr.isAgg : Tr → Bool
  | .node _ _ _ => true
  | .arr _ _ => true
  | _ => false

/-- Is a tree a leaf: one cell? -/
def Tr.isLeaf : Tr → Bool
  | .node _ _ _ => false
  | .arr _ _ => false
  | .tup _ => false
  | _ => true

theorem wfL_iff : ∀ xs : List Tr, wfL xs ↔ ∀ x ∈ xs, x.wf
  | [] => by simp [wfL]
  | x :: xs => by simp [wfL, wfL_iff xs]

theorem leavesL_append : ∀ xs ys : List Tr, leavesL (xs ++ ys) = leavesL xs ++ leavesL ys
  | [], ys => by simp [leavesL]
  | x :: xs, ys => by simp [leavesL, leavesL_append xs ys]

theorem offsOK_sum : ∀ (os : List Nat) (xs : List Tr) (a sz : Nat), offsOK os xs a sz → a + (xs.map Tr.size).sum = sz
  | [], [], a, sz, h => by simpa [offsOK] using h
  | o :: os, x :: xs, a, sz, h => by
    simp only [offsOK] at h
    have := offsOK_sum os xs _ _ h.2
    simp; omega
  | [], _ :: _, _, _, h => by simp [offsOK] at h
  | _ :: _, [], _, _, h => by simp [offsOK] at h

theorem offsOK_length : ∀ (os : List Nat) (xs : List Tr) (a sz : Nat), offsOK os xs a sz → os.length = xs.length
  | [], [], _, _, _ => rfl
  | o :: os, x :: xs, a, sz, h => by
    simp only [offsOK] at h
    simp [offsOK_length os xs _ _ h.2]
  | [], _ :: _, _, _, h => by simp [offsOK] at h
  | _ :: _, [], _, _, h => by simp [offsOK] at h

theorem offsOK_get : ∀ (os : List Nat) (xs : List Tr) (a sz i o : Nat), offsOK os xs a sz → os[i]? = some o → o = a + ((xs.take i).map Tr.size).sum
  | o' :: os, x :: xs, a, sz, 0, o, h, hi => by
    simp only [offsOK] at h
    simp at hi
    simp; omega
  | o' :: os, x :: xs, a, sz, i + 1, o, h, hi => by
    simp only [offsOK] at h
    have := offsOK_get os xs _ _ i o h.2 (by simpa using hi)
    simp only [List.take_succ_cons, List.map_cons, List.sum_cons]; omega
  | [], [], _, _, _, _, _, hi => by simp at hi
  | [], _ :: _, _, _, _, _, h, _ => by simp [offsOK] at h
  | _ :: _, [], _, _, _, _, h, _ => by simp [offsOK] at h

theorem sum_size_const (sz : Nat) : ∀ xs : List Tr, (∀ x ∈ xs, x.size = sz) → (xs.map Tr.size).sum = sz * xs.length
  | [], _ => by simp
  | x :: xs, h => by
    have := sum_size_const sz xs (fun y hy => h y (by simp [hy]))
    simp [this, h x (by simp), Nat.mul_add]; omega

mutual
theorem leaves_length : ∀ t : Tr, t.wf → t.leaves.length = t.size
  | .node sz offs xs, h => by
    simp only [Tr.wf] at h
    have h1 := leavesL_length xs h.2
    have h2 := offsOK_sum _ _ _ _ h.1
    simp only [Tr.leaves, Tr.size, h1]; omega
  | .arr sz xs, h => by
    simp only [Tr.wf] at h
    have h1 := leavesL_length xs h.2
    simp only [Tr.leaves, Tr.size, h1, sum_size_const sz xs h.1]
  | .any, h => by simp [Tr.wf] at h
  | .int .., _ => rfl
  | .bool .., _ => rfl
  | .str .., _ => rfl
  | .nilp, _ => rfl
  | .nils, _ => rfl
  | .nilf, _ => rfl
  | .ptr .., _ => rfl
  | .iptr .., _ => rfl
  | .own .., _ => rfl
  | .sl .., _ => rfl
  | .tup .., h => by simp [Tr.wf] at h
  | .clo .., _ => rfl
theorem leavesL_length : ∀ xs : List Tr, wfL xs → (leavesL xs).length = (xs.map Tr.size).sum
  | [], _ => rfl
  | x :: xs, h => by
    simp only [wfL] at h
    simp [leavesL, leaves_length x h.1, leavesL_length xs h.2]
end

mutual
theorem leaves_wf : ∀ t : Tr, t.wf → ∀ l ∈ t.leaves, l.wf ∧ l.isLeaf = true
  | .node sz offs xs, h, l, hl => by
    simp only [Tr.wf] at h
    exact leavesL_wf xs h.2 l (by simpa [Tr.leaves] using hl)
  | .arr sz xs, h, l, hl => by
    simp only [Tr.wf] at h
    exact leavesL_wf xs h.2 l (by simpa [Tr.leaves] using hl)
  | .any, h, _, _ => by simp [Tr.wf] at h
  | .int .., h, l, hl => by simp only [Tr.leaves, List.mem_singleton] at hl; subst hl; exact ⟨h, rfl⟩
  | .bool .., h, l, hl => by simp only [Tr.leaves, List.mem_singleton] at hl; subst hl; exact ⟨h, rfl⟩
  | .str .., h, l, hl => by simp only [Tr.leaves, List.mem_singleton] at hl; subst hl; exact ⟨h, rfl⟩
  | .nilp, h, l, hl => by simp only [Tr.leaves, List.mem_singleton] at hl; subst hl; exact ⟨h, rfl⟩
  | .nils, h, l, hl => by simp only [Tr.leaves, List.mem_singleton] at hl; subst hl; exact ⟨h, rfl⟩
  | .nilf, h, l, hl => by simp only [Tr.leaves, List.mem_singleton] at hl; subst hl; exact ⟨h, rfl⟩
  | .ptr .., h, l, hl => by simp only [Tr.leaves, List.mem_singleton] at hl; subst hl; exact ⟨h, rfl⟩
  | .iptr .., h, l, hl => by simp only [Tr.leaves, List.mem_singleton] at hl; subst hl; exact ⟨h, rfl⟩
  | .own .., h, l, hl => by simp only [Tr.leaves, List.mem_singleton] at hl; subst hl; exact ⟨h, rfl⟩
  | .sl .., h, l, hl => by simp only [Tr.leaves, List.mem_singleton] at hl; subst hl; exact ⟨h, rfl⟩
  | .tup .., h, _, _ => by simp [Tr.wf] at h
  | .clo .., h, l, hl => by simp only [Tr.leaves, List.mem_singleton] at hl; subst hl; exact ⟨h, rfl⟩
theorem leavesL_wf : ∀ xs : List Tr, wfL xs → ∀ l ∈ leavesL xs, l.wf ∧ l.isLeaf = true
  | [], _, l, hl => by simp [leavesL] at hl
  | x :: xs, h, l, hl => by
    simp only [wfL] at h
    simp only [leavesL, List.mem_append] at hl
    rcases hl with hl | hl
    · exact leaves_wf x h.1 l hl
    · exact leavesL_wf xs h.2 l hl
end

/-- The part of a tree at a path, and where it lies. -/
def Tr.atF : Nat → List Nat → Tr → Option (Nat × Tr)
  | acc, [], t => some (acc, t)
  | acc, i :: p, .node _ offs xs =>
    match offs[i]?, xs[i]? with
    | some o, some x => Tr.atF (acc + o) p x
    | _, _ => none
  | acc, i :: p, .arr sz xs =>
    match xs[i]? with
    | some x => Tr.atF (acc + i * sz) p x
    | none => none
  | _, _ :: _, _ => none

/-- The tree with another part at a path. -/
def Tr.setF : List Nat → Tr → Tr → Option Tr
  | [], new, _ => some new
  | i :: p, new, .node sz offs xs =>
    match xs[i]? with
    | some x => (Tr.setF p new x).map fun y => .node sz offs (xs.set i y)
    | none => none
  | i :: p, new, .arr sz xs =>
    match xs[i]? with
    | some x => (Tr.setF p new x).map fun y => .arr sz (xs.set i y)
    | none => none
  | _ :: _, _, _ => none

theorem leavesL_split (xs : List Tr) (i : Nat) (x : Tr) (h : xs[i]? = some x) :
    leavesL xs = leavesL (xs.take i) ++ (x.leaves ++ leavesL (xs.drop (i + 1))) := by
  have hl : i < xs.length := (List.getElem?_eq_some_iff.1 h).1
  have hx : xs[i] = x := (List.getElem?_eq_some_iff.1 h).2
  have e : xs = xs.take i ++ (x :: xs.drop (i + 1)) := by
    rw [← hx, ← List.drop_eq_getElem_cons hl, List.take_append_drop]
  conv => lhs; rw [e]
  rw [leavesL_append]
  simp [leavesL]

theorem wfL_get {xs : List Tr} {i : Nat} {x : Tr} (hw : wfL xs) (h : xs[i]? = some x) : x.wf :=
  (wfL_iff xs).1 hw x (List.mem_of_getElem? h)

theorem wfL_take {xs : List Tr} (hw : wfL xs) (i : Nat) : wfL (xs.take i) :=
  (wfL_iff _).2 fun x hx => (wfL_iff xs).1 hw x (List.mem_of_mem_take hx)

theorem wfL_drop {xs : List Tr} (hw : wfL xs) (i : Nat) : wfL (xs.drop i) :=
  (wfL_iff _).2 fun x hx => (wfL_iff xs).1 hw x (List.mem_of_mem_drop hx)

theorem take_drop_mid {α : Type} (A B C : List α) (k n : Nat) (hk : A.length = k) (hn : B.length = n) : ((A ++ (B ++ C)).drop k).take n = B := by
  subst hk; subst hn; simp

theorem at_leaves : ∀ (p : List Nat) (t : Tr) (acc o : Nat) (u : Tr), t.wf → t.atF acc p = some (o, u) →
    u.wf ∧ ∃ k, o = acc + k ∧ k + u.size ≤ t.size ∧ (t.leaves.drop k).take u.size = u.leaves
  | [], t, acc, o, u, hw, h => by
    simp only [Tr.atF, Option.some.injEq, Prod.mk.injEq] at h
    obtain ⟨rfl, rfl⟩ := h
    exact ⟨hw, 0, rfl, by simp, by rw [← leaves_length t hw]; simp⟩
  | i :: p, .node sz offs xs, acc, o, u, hw, h => by
    simp only [Tr.atF] at h
    split at h
    · rename_i o1 x ho hx
      simp only [Tr.wf] at hw
      have hxw := wfL_get hw.2 hx
      obtain ⟨huw, k, hk, hle, hl⟩ := at_leaves p x _ o u hxw h
      have ho1 := offsOK_get _ _ _ _ _ _ hw.1 ho
      have hlen : (leavesL (xs.take i)).length = o1 := by rw [leavesL_length _ (wfL_take hw.2 i)]; omega
      have hsplit := leavesL_split xs i x hx
      have hxl := leaves_length x hxw
      have htot : (leavesL xs).length = sz := by
        have := leaves_length (.node sz offs xs) (by simp only [Tr.wf]; exact hw)
        simpa [Tr.leaves, Tr.size] using this
      refine ⟨huw, o1 + k, by omega, ?_, ?_⟩
      · simp only [size_node, size_arr]
        rw [hsplit] at htot
        simp only [List.length_append] at htot
        omega
      · simp only [Tr.leaves]
        rw [hsplit, ← List.drop_drop, ← hlen, List.drop_left, ← hl]
        rw [List.drop_append_of_le_length (by omega), List.take_append_of_le_length (by simp; omega)]
    · cases h
  | i :: p, .arr sz xs, acc, o, u, hw, h => by
    simp only [Tr.atF] at h
    split at h
    · rename_i x hx
      simp only [Tr.wf] at hw
      have hxw := wfL_get hw.2 hx
      obtain ⟨huw, k, hk, hle, hl⟩ := at_leaves p x _ o u hxw h
      have hi : i < xs.length := (List.getElem?_eq_some_iff.1 hx).1
      have hlen : (leavesL (xs.take i)).length = i * sz := by
        rw [leavesL_length _ (wfL_take hw.2 i), sum_size_const sz _ (fun y hy => hw.1 y (List.mem_of_mem_take hy))]
        simp [Nat.min_eq_left (Nat.le_of_lt hi), Nat.mul_comm]
      have hsplit := leavesL_split xs i x hx
      have hxl := leaves_length x hxw
      have htot : (leavesL xs).length = sz * xs.length := by
        have := leaves_length (.arr sz xs) (by simp only [Tr.wf]; exact hw)
        simpa [Tr.leaves, Tr.size] using this
      refine ⟨huw, i * sz + k, by omega, ?_, ?_⟩
      · simp only [size_node, size_arr]
        rw [hsplit] at htot
        simp only [List.length_append] at htot
        omega
      · simp only [Tr.leaves]
        rw [hsplit, ← List.drop_drop, ← hlen, List.drop_left, ← hl]
        rw [List.drop_append_of_le_length (by omega), List.take_append_of_le_length (by simp; omega)]
    · cases h
  | _ :: _, .any, _, _, _, _, h => by simp [Tr.atF] at h
  | _ :: _, .int .., _, _, _, _, h => by simp [Tr.atF] at h
  | _ :: _, .bool .., _, _, _, _, h => by simp [Tr.atF] at h
  | _ :: _, .str .., _, _, _, _, h => by simp [Tr.atF] at h
  | _ :: _, .nilp, _, _, _, _, h => by simp [Tr.atF] at h
  | _ :: _, .nils, _, _, _, _, h => by simp [Tr.atF] at h
  | _ :: _, .nilf, _, _, _, _, h => by simp [Tr.atF] at h
  | _ :: _, .ptr .., _, _, _, _, h => by simp [Tr.atF] at h
  | _ :: _, .iptr .., _, _, _, _, h => by simp [Tr.atF] at h
  | _ :: _, .own .., _, _, _, _, h => by simp [Tr.atF] at h
  | _ :: _, .sl .., _, _, _, _, h => by simp [Tr.atF] at h
  | _ :: _, .tup .., _, _, _, _, h => by simp [Tr.atF] at h
  | _ :: _, .clo .., _, _, _, _, h => by simp [Tr.atF] at h

theorem offsOK_set : ∀ (os : List Nat) (xs : List Tr) (a sz i : Nat) (x y : Tr), offsOK os xs a sz → xs[i]? = some x → y.size = x.size → offsOK os (xs.set i y) a sz
  | o :: os, x' :: xs, a, sz, 0, x, y, h, hx, hs => by
    simp only [offsOK] at h
    simp at hx
    subst hx
    simp only [List.set_cons_zero, offsOK, hs]
    exact h
  | o :: os, x' :: xs, a, sz, i + 1, x, y, h, hx, hs => by
    simp only [offsOK] at h
    simp only [List.set_cons_succ, offsOK]
    exact ⟨h.1, offsOK_set os xs _ _ i x y h.2 (by simpa using hx) hs⟩
  | [], [], _, _, _, _, _, _, hi, _ => by simp at hi
  | [], _ :: _, _, _, _, _, _, h, _, _ => by simp [offsOK] at h
  | _ :: _, [], _, _, _, _, _, h, _, _ => by simp [offsOK] at h

theorem wfL_set {xs : List Tr} (hw : wfL xs) (i : Nat) {y : Tr} (hy : y.wf) : wfL (xs.set i y) :=
  (wfL_iff _).2 fun z hz => by
    rcases List.mem_or_eq_of_mem_set hz with h | rfl
    · exact (wfL_iff xs).1 hw z h
    · exact hy

theorem leavesL_set (xs : List Tr) (i : Nat) (x y : Tr) (h : xs[i]? = some x) :
    leavesL (xs.set i y) = leavesL (xs.take i) ++ (y.leaves ++ leavesL (xs.drop (i + 1))) := by
  have hi : i < xs.length := (List.getElem?_eq_some_iff.1 h).1
  have := leavesL_split (xs.set i y) i y (by simp [hi])
  rw [this, List.take_set_of_le (Nat.le_refl i), List.drop_set_of_lt (Nat.lt_succ_self i)]

/-- What setting a part does to the leaves. -/
theorem set_leaves : ∀ (p : List Nat) (t : Tr) (acc o : Nat) (u new : Tr), t.wf → t.atF acc p = some (o, u) → new.wf → new.size = u.size →
    ∃ t' k, Tr.setF p new t = some t' ∧ t'.wf ∧ t'.size = t.size ∧ o = acc + k ∧ k + u.size ≤ t.size ∧ t'.leaves = t.leaves.take k ++ (new.leaves ++ t.leaves.drop (k + u.size))
  | [], t, acc, o, u, new, hw, h, hn, hs => by
    simp only [Tr.atF, Option.some.injEq, Prod.mk.injEq] at h
    obtain ⟨rfl, rfl⟩ := h
    exact ⟨new, 0, rfl, hn, hs, rfl, by simp, by rw [← leaves_length t hw]; simp⟩
  | i :: p, .node sz offs xs, acc, o, u, new, hw, h, hn, hs => by
    simp only [Tr.atF] at h
    split at h
    · rename_i o1 x ho hx
      simp only [Tr.wf] at hw
      have hxw := wfL_get hw.2 hx
      obtain ⟨x', k, hset, hx'w, hx's, hk, hle, hl⟩ := set_leaves p x _ o u new hxw h hn hs
      have ho1 := offsOK_get _ _ _ _ _ _ hw.1 ho
      have hlen : (leavesL (xs.take i)).length = o1 := by rw [leavesL_length _ (wfL_take hw.2 i)]; omega
      have hsplit := leavesL_split xs i x hx
      have hxl := leaves_length x hxw
      have htot : (leavesL xs).length = sz := by
        have := leaves_length (.node sz offs xs) (by simp only [Tr.wf]; exact hw)
        simpa [Tr.leaves, Tr.size] using this
      refine ⟨.node sz offs (xs.set i x'), o1 + k, ?_, ?_, rfl, by omega, ?_, ?_⟩
      · simp only [Tr.setF, hx, hset, Option.map_some]
      · simp only [Tr.wf]
        exact ⟨offsOK_set _ _ _ _ _ _ _ hw.1 hx hx's, wfL_set hw.2 i hx'w⟩
      · simp only [size_node, size_arr]
        rw [hsplit] at htot
        simp only [List.length_append] at htot
        omega
      · simp only [Tr.leaves]
        rw [leavesL_set xs i x x' hx, hl, hsplit]
        have e1 : (leavesL (xs.take i) ++ (x.leaves ++ leavesL (xs.drop (i + 1)))).take (o1 + k) = leavesL (xs.take i) ++ x.leaves.take k := by
          rw [List.take_append, hlen, List.take_of_length_le (by omega), show o1 + k - o1 = k by omega, List.take_append_of_le_length (by omega)]
        have e2 : (leavesL (xs.take i) ++ (x.leaves ++ leavesL (xs.drop (i + 1)))).drop (o1 + k + u.size) = x.leaves.drop (k + u.size) ++ leavesL (xs.drop (i + 1)) := by
          rw [List.drop_append, hlen, List.drop_of_length_le (by omega), show o1 + k + u.size - o1 = k + u.size by omega, List.nil_append, List.drop_append_of_le_length (by omega)]
        rw [e1, e2]
        simp [List.append_assoc]
    · cases h
  | i :: p, .arr sz xs, acc, o, u, new, hw, h, hn, hs => by
    simp only [Tr.atF] at h
    split at h
    · rename_i x hx
      simp only [Tr.wf] at hw
      have hxw := wfL_get hw.2 hx
      obtain ⟨x', k, hset, hx'w, hx's, hk, hle, hl⟩ := set_leaves p x _ o u new hxw h hn hs
      have hi : i < xs.length := (List.getElem?_eq_some_iff.1 hx).1
      have hlen : (leavesL (xs.take i)).length = i * sz := by
        rw [leavesL_length _ (wfL_take hw.2 i), sum_size_const sz _ (fun y hy => hw.1 y (List.mem_of_mem_take hy))]
        simp [Nat.min_eq_left (Nat.le_of_lt hi), Nat.mul_comm]
      have hsplit := leavesL_split xs i x hx
      have hxl := leaves_length x hxw
      have htot : (leavesL xs).length = sz * xs.length := by
        have := leaves_length (.arr sz xs) (by simp only [Tr.wf]; exact hw)
        simpa [Tr.leaves, Tr.size] using this
      refine ⟨.arr sz (xs.set i x'), i * sz + k, ?_, ?_, by simp [Tr.size], by omega, ?_, ?_⟩
      · simp only [Tr.setF, hx, hset, Option.map_some]
      · simp only [Tr.wf]
        refine ⟨fun z hz => ?_, wfL_set hw.2 i hx'w⟩
        rcases List.mem_or_eq_of_mem_set hz with h' | rfl
        · exact hw.1 z h'
        · rw [hx's]; exact hw.1 x (List.mem_of_getElem? hx)
      · simp only [size_node, size_arr]
        rw [hsplit] at htot
        simp only [List.length_append] at htot
        omega
      · simp only [Tr.leaves]
        rw [leavesL_set xs i x x' hx, hl, hsplit]
        have e1 : (leavesL (xs.take i) ++ (x.leaves ++ leavesL (xs.drop (i + 1)))).take (i * sz + k) = leavesL (xs.take i) ++ x.leaves.take k := by
          rw [List.take_append, hlen, List.take_of_length_le (by omega), show i * sz + k - i * sz = k by omega, List.take_append_of_le_length (by omega)]
        have e2 : (leavesL (xs.take i) ++ (x.leaves ++ leavesL (xs.drop (i + 1)))).drop (i * sz + k + u.size) = x.leaves.drop (k + u.size) ++ leavesL (xs.drop (i + 1)) := by
          rw [List.drop_append, hlen, List.drop_of_length_le (by omega), show i * sz + k + u.size - i * sz = k + u.size by omega, List.nil_append, List.drop_append_of_le_length (by omega)]
        rw [e1, e2]
        simp [List.append_assoc]
    · cases h
  | _ :: _, .any, _, _, _, _, _, h, _, _ => by simp [Tr.atF] at h
  | _ :: _, .int .., _, _, _, _, _, h, _, _ => by simp [Tr.atF] at h
  | _ :: _, .bool .., _, _, _, _, _, h, _, _ => by simp [Tr.atF] at h
  | _ :: _, .str .., _, _, _, _, _, h, _, _ => by simp [Tr.atF] at h
  | _ :: _, .nilp, _, _, _, _, _, h, _, _ => by simp [Tr.atF] at h
  | _ :: _, .nils, _, _, _, _, _, h, _, _ => by simp [Tr.atF] at h
  | _ :: _, .nilf, _, _, _, _, _, h, _, _ => by simp [Tr.atF] at h
  | _ :: _, .ptr .., _, _, _, _, _, h, _, _ => by simp [Tr.atF] at h
  | _ :: _, .iptr .., _, _, _, _, _, h, _, _ => by simp [Tr.atF] at h
  | _ :: _, .own .., _, _, _, _, _, h, _, _ => by simp [Tr.atF] at h
  | _ :: _, .sl .., _, _, _, _, _, h, _, _ => by simp [Tr.atF] at h
  | _ :: _, .tup .., _, _, _, _, _, h, _, _ => by simp [Tr.atF] at h
  | _ :: _, .clo .., _, _, _, _, _, h, _, _ => by simp [Tr.atF] at h

end Go.Proofs.Ytnonimnhninafaa.Ab
