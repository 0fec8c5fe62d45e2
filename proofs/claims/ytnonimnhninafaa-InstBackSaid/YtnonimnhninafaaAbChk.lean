/- Tables of types: what the kernel can reckon. -/
import Derived.Test.YtnonimnhninafaaAbCall
import Derived.KernelRfl
namespace Go.Proofs.Ytnonimnhninafaa.Ab
open Go

def offsB : List Nat → List Tr → Nat → Nat → Bool
  | [], [], a, sz => a == sz
  | o :: os, x :: xs, a, sz => o == a && offsB os xs (a + x.size) sz
  | _, _, _, _ => false

theorem offsB_ok : ∀ (os : List Nat) (xs : List Tr) (a sz : Nat), offsB os xs a sz = true → offsOK os xs a sz
  | [], [], a, sz, h => by simpa [offsB, offsOK] using h
  | o :: os, x :: xs, a, sz, h => by
    simp only [offsB, Bool.and_eq_true, beq_iff_eq] at h
    exact ⟨h.1, offsB_ok os xs _ _ h.2⟩
  | [], _ :: _, _, _, h => by simp [offsB] at h
  | _ :: _, [], _, _, h => by simp [offsB] at h

mutual
def Tr.wfB : Tr → Bool
  | .node sz offs xs => offsB offs xs 0 sz && wfBL xs
  | .arr sz xs => (xs.all fun x => x.size == sz) && wfBL xs
  | .sl sz xs => (xs.all fun x => x.size == sz) && wfBL xs
  | .iptr x => x.wfB
  | .any => false
  | .tup _ => false
  | .int _ _ => true
  | .bool _ => true
  | .str _ => true
  | .nilp => true
  | .nils => true
  | .nilf => true
  | .ptr _ _ _ _ => true
  | .own _ _ _ _ => true
  | .clo _ _ => true
def wfBL : List Tr → Bool
  | [] => true
  | x :: xs => x.wfB && wfBL xs
end

mutual
theorem wfB_ok : ∀ t : Tr, t.wfB = true → t.wf
  | .node sz offs xs, h => by
    simp only [Tr.wfB, Bool.and_eq_true] at h
    simp only [Tr.wf]
    exact ⟨offsB_ok _ _ _ _ h.1, wfBL_ok xs h.2⟩
  | .arr sz xs, h => by
    simp only [Tr.wfB, Bool.and_eq_true, List.all_eq_true, beq_iff_eq] at h
    simp only [Tr.wf]
    exact ⟨h.1, wfBL_ok xs h.2⟩
  | .sl sz xs, h => by
    simp only [Tr.wfB, Bool.and_eq_true, List.all_eq_true, beq_iff_eq] at h
    simp only [Tr.wf]
    exact ⟨h.1, wfBL_ok xs h.2⟩
  | .iptr x, h => wfB_ok x h
  | .any, h => by simp [Tr.wfB] at h
  | .tup _, h => by simp [Tr.wfB] at h
  | .int .., _ => trivial
  | .bool .., _ => trivial
  | .str .., _ => trivial
  | .nilp, _ => trivial
  | .nils, _ => trivial
  | .nilf, _ => trivial
  | .ptr .., _ => trivial
  | .own .., _ => trivial
  | .clo .., _ => trivial
theorem wfBL_ok : ∀ xs : List Tr, wfBL xs = true → wfL xs
  | [], _ => trivial
  | x :: xs, h => by
    simp only [wfBL, Bool.and_eq_true] at h
    exact ⟨wfB_ok x h.1, wfBL_ok xs h.2⟩
end

def zeroB (i : TyI) : Bool := i.zero.wfB && i.zero.size == i.size && (i.zero.isAgg == i.kind.isAgg) && i.zero.leaves.all Tr.isConst

theorem TyOK.info_of {P : Program} {t : TypeId} {i : TyI} {inf : TypeInfo} (h : P.info? t = some inf) (h1 : inf.size = i.size) (h2 : inf.bytes = i.bytes) (hb : zeroB i = true) {z : Value} (hz : inf.zero = some z) (hc : z.cells.toList = i.zero.leaves.map Tr.constVal) :
    ∃ inf, P.info? t = some inf ∧ inf.size = i.size ∧ inf.bytes = i.bytes ∧
    (i.zero.good = true → i.zero.wf ∧ i.zero.size = i.size ∧ i.zero.isAgg = i.kind.isAgg ∧ (∀ l ∈ i.zero.leaves, l.isConst = true) ∧ ∃ z, inf.zero = some z ∧ z.cells.toList = i.zero.leaves.map Tr.constVal) := by
  simp only [zeroB, Bool.and_eq_true, beq_iff_eq, List.all_eq_true] at hb
  exact ⟨inf, h, h1, h2, fun _ => ⟨wfB_ok _ hb.1.1.1, hb.1.1.2, hb.1.2, hb.2, z, hz, hc⟩⟩

theorem TyOK.info_any {P : Program} {t : TypeId} {i : TyI} {inf : TypeInfo} (h : P.info? t = some inf) (h1 : inf.size = i.size) (h2 : inf.bytes = i.bytes) (ha : i.zero = .any) :
    ∃ inf, P.info? t = some inf ∧ inf.size = i.size ∧ inf.bytes = i.bytes ∧
    (i.zero.good = true → i.zero.wf ∧ i.zero.size = i.size ∧ i.zero.isAgg = i.kind.isAgg ∧ (∀ l ∈ i.zero.leaves, l.isConst = true) ∧ ∃ z, inf.zero = some z ∧ z.cells.toList = i.zero.leaves.map Tr.constVal) :=
  ⟨inf, h, h1, h2, fun hg => by rw [ha] at hg; simp [Tr.good] at hg⟩

end Go.Proofs.Ytnonimnhninafaa.Ab
