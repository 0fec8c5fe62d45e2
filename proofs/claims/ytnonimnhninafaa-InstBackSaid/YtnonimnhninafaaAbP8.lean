/- Numbers and lists for the other Inst laws. -/
import Derived.Test.YtnonimnhninafaaAbP6
namespace Go.Proofs.Ytnonimnhninafaa.Ab
open Go
namespace PL
set_option maxRecDepth 100000

theorem or_add (k : Nat) {x y : Int} (hx0 : 0 ≤ x) (hx1 : x < 1099511627776) (hd : x % ((2 ^ k : Nat) : Int) = 0) (hy0 : 0 ≤ y) (hy1 : y < ((2 ^ k : Nat) : Int)) (hy2 : y < 1099511627776) : bitOf BinOp.or IntKind.i64 x y = x + y := by
  obtain ⟨a, rfl⟩ : ∃ a : Nat, x = a := ⟨x.toNat, by omega⟩
  obtain ⟨b, rfl⟩ : ∃ b : Nat, y = b := ⟨y.toNat, by omega⟩
  have hb : b < 2 ^ k := by exact_mod_cast hy1
  have ha : a % 2 ^ k = 0 := by exact_mod_cast hd
  have e : (BitVec.ofInt IntKind.i64.bits (a : Int) ||| BitVec.ofInt IntKind.i64.bits (b : Int)).toNat = a + b := by
    rw [BitVec.toNat_or, BitVec.toNat_ofInt, BitVec.toNat_ofInt]
    have h1 : ((a : Int) % ((2 ^ IntKind.i64.bits : Nat) : Int)).toNat = a := by
      rw [Int.emod_eq_of_lt (by omega) (by simp only [IntKind.bits]; omega)]; simp
    have h2 : ((b : Int) % ((2 ^ IntKind.i64.bits : Nat) : Int)).toNat = b := by
      rw [Int.emod_eq_of_lt (by omega) (by simp only [IntKind.bits]; omega)]; simp
    rw [h1, h2]
    have h3 : 2 ^ k * (a / 2 ^ k) = a := by
      have := Nat.div_add_mod a (2 ^ k)
      omega
    have h4 := Nat.two_pow_add_eq_or_of_lt hb (a / 2 ^ k)
    rw [h3] at h4
    exact h4.symm
  show IntKind.i64.wrap _ = _
  rw [e]
  have : ((a + b : Nat) : Int) = (a : Int) + (b : Int) := by omega
  rw [this]
  exact wrap64 (by omega) (by omega)

/-- Two lists of numbers, compared one by one. -/
theorem same_loop {a b : List Int} (hl : a.length = b.length) (hm : a.length < 4611686018427387904) : ∀ (k i fuel : Nat), k + i = a.length → k < fuel →
    iterO X.R03_SameInts_b4 fuel ((a, (b, ((i : Int), ()))), ()) = some (bif decide (a.drop i = b.drop i) then .brk ((), ()) else .ret ((false, ()), ()))
  | 0, i, fuel + 1, hk, _ => by
    have e1 : a.drop i = [] := List.drop_eq_nil_of_le (by omega)
    have e2 : b.drop i = [] := List.drop_eq_nil_of_le (by omega)
    rw [e1, e2]
    refine it_brk ?_
    unfold X.R03_SameInts_b4
    have h1 : decide ((i : Int) < (Nat.cast (List.length a) : Int)) = false := by simp; omega
    simp only [h1, cond_false]
  | k + 1, i, fuel + 1, hk, hf => by
    have ih := same_loop hl hm k (i + 1) fuel (by omega) (by omega)
    have hi : i < a.length := by omega
    have hj : i < b.length := by omega
    have d1 : a.drop i = a[i] :: a.drop (i + 1) := List.drop_eq_getElem_cons hi
    have d2 : b.drop i = b[i] :: b.drop (i + 1) := List.drop_eq_getElem_cons hj
    have g1 : List.getD a (Int.toNat (i : Int)) (dflt (Ty.int IntKind.i64)) = a[i] := by rw [Int.toNat_natCast]; exact getD_of (List.getElem?_eq_getElem hi)
    have g2 : List.getD b (Int.toNat (i : Int)) (dflt (Ty.int IntKind.i64)) = b[i] := by rw [Int.toNat_natCast]; exact getD_of (List.getElem?_eq_getElem hj)
    have h1 : decide ((i : Int) < (Nat.cast (List.length a) : Int)) = true := by simp; omega
    have h2 : decide ((i : Int) < (Nat.cast (List.length b) : Int)) = true := by simp; omega
    have h3 : decide ((0 : Int) ≤ (i : Int)) = true := by simp
    have hw : IntKind.wrap IntKind.i64 ((i : Int) + 1) = ((i + 1 : Nat) : Int) := by rw [wrap64 (by omega) (by omega)]; rfl
    have hb : X.R03_SameInts_b4 ((a, (b, ((i : Int), ()))), ()) = (bif a[i] != b[i] then some (.ret ((false, ()), ())) else some (.next ((a, (b, (((i + 1 : Nat) : Int), ()))), ()))) := by
      unfold X.R03_SameInts_b4
      simp only [h1, h2, h3, hw, g1, g2, cond_true, Bool.and_self]
    rw [d1, d2]
    by_cases he : a[i] = b[i]
    · have hn : (a[i] != b[i]) = false := by simp [he]
      rw [hn] at hb
      rw [it_next hb, ih]
      have hc : (a.drop (i + 1) = b.drop (i + 1)) ↔ (a[i] :: a.drop (i + 1) = b[i] :: b.drop (i + 1)) := ⟨fun h => by rw [he, h], fun h => (List.cons.inj h).2⟩
      rw [decide_eq_decide.2 hc]
    · have hn : (a[i] != b[i]) = true := by simp [he]
      rw [hn] at hb
      rw [it_ret hb, decide_eq_false (fun h => he (List.cons.inj h).1)]
      rfl

theorem same_ints {a b : List Int} (hm : a.length < 4611686018427387904) : X.R03_SameInts a b = some (decide (a = b), ()) := by
  unfold X.R03_SameInts X.R03_SameInts_l4
  by_cases hl : a.length = b.length
  · have e : ((Nat.cast (List.length a) : Int) != (Nat.cast (List.length b) : Int)) = false := by simp [hl]
    rw [e]
    have := same_loop hl hm a.length 0 (100 + a.length + b.length + Int.toNat 0) (by omega) (by omega)
    simp only [cond_false]
    rw [show ((a, (b, ((0 : Int), ()))), ()) = ((a, (b, (((0 : Nat) : Int), ()))), ()) from rfl, this, List.drop_zero, List.drop_zero]
    by_cases h : a = b
    · simp [h]
    · simp [h]
  · have e : ((Nat.cast (List.length a) : Int) != (Nat.cast (List.length b) : Int)) = true := by simp; omega
    rw [e]
    have : ¬ a = b := fun h => hl (by rw [h])
    simp [this]

theorem valid_op (o : M.Operand) : X.operand_Valid o = X.R05_Valid o := by
  unfold X.operand_Valid X.R05_Valid X.operand_mode X.operand_reg
  rw [mask3, mask3, mask16, ext_eq]
  by_cases h1 : 0 ≤ o.Mode ∧ o.Mode ≤ 7
  · by_cases h2 : 0 ≤ o.Reg ∧ o.Reg ≤ 7
    · by_cases h3 : 0 ≤ o.Ext ∧ o.Ext ≤ 65535
      · have a1 : o.Mode % 8 = o.Mode := by omega
        have a2 : o.Reg % 8 = o.Reg := by omega
        have a3 : o.Ext % 65536 = o.Ext := by omega
        have e1 : decide (o.Mode < 0) = false := by simp; omega
        have e2 : decide (o.Mode > 7) = false := by simp; omega
        have e3 : decide (o.Reg < 0) = false := by simp; omega
        have e4 : decide (o.Reg > 7) = false := by simp; omega
        have e5 : decide (o.Ext < 0) = false := by simp; omega
        have e6 : decide (o.Ext > 65535) = false := by simp; omega
        rw [a1, a2, a3, e1, e2, e3, e4, e5, e6]
        simp only [beq_self_eq_true, cond_true, cond_false]
        cases X.R05_Extended o <;> cases (o.Ext == 0) <;> rfl
      · have a3 : (o.Ext % 65536 == o.Ext) = false := by simp; omega
        rw [a3]
        by_cases h5 : o.Ext < 0
        · simp [h5]
        · have h6 : o.Ext > 65535 := by omega
          simp [h6]
    · have a2 : (o.Reg == o.Reg % 8) = false := by simp; omega
      rw [a2]
      by_cases h5 : o.Reg < 0
      · simp [h5]
      · have h6 : o.Reg > 7 := by omega
        simp [h6]
  · have a1 : (o.Mode == o.Mode % 8) = false := by simp; omega
    rw [a1]
    by_cases h5 : o.Mode < 0
    · simp [h5]
    · have h6 : o.Mode > 7 := by omega
      simp [h6]
end PL
end Go.Proofs.Ytnonimnhninafaa.Ab
