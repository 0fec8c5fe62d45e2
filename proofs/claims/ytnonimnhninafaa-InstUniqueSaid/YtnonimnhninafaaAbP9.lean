/- The words of an instruction: the loop as a search, and what valid instructions are. -/
import Derived.Test.YtnonimnhninafaaAbP8
namespace Go.Proofs.Ytnonimnhninafaa.Ab
open Go
set_option linter.unusedVariables false
set_option linter.unusedSimpArgs false
namespace PL
set_option maxRecDepth 100000

def byOp (o : Int) : List M.Inst_form → Option M.Inst_form
  | [] => none
  | f :: fs => bif f.op != o then byOp o fs else some f

theorem byOp_some {o : Int} : ∀ {fs : List M.Inst_form} {f : M.Inst_form}, byOp o fs = some f → f ∈ fs ∧ f.op = o
  | [], f, h => by cases h
  | g :: fs, f, h => by
    unfold byOp at h
    cases h1 : (g.op != o) with
    | true =>
      rw [h1] at h
      obtain ⟨k1, k2⟩ := byOp_some (fs := fs) h
      exact ⟨List.mem_cons_of_mem _ k1, k2⟩
    | false =>
      rw [h1] at h
      simp only [cond_false, Option.some.injEq] at h
      subst h
      exact ⟨by simp, by simpa using h1⟩

def exs (o : M.Operand) : List Int := bif X.R05_Extended o then [o.Ext] else []
def wl (f : M.Inst_form) (i : M.Inst) : List Int := [bitOf BinOp.and IntKind.i64 (X.inst_form_word f i) 65535] ++ exs i.Src ++ exs i.Dst
def badf (f : M.Inst_form) (i : M.Inst) : Bool := (i.Byte && !f.bytes) || (!X.R05_Valid i.Src || (!X.R05_Valid i.Dst || (bitOf BinOp.and IntKind.i64 i.Reg 7 != i.Reg)))
def wbody (f : M.Inst_form) (i : M.Inst) : Option (List Int × Bool × Unit) :=
  bif badf f i then some ([], false, ()) else
    match X.inst_Decode (wl f i) with
    | some y => some (wl f i, (y.2.1 == ((wl f i).length : Int)) && vEqB (Ty.st SId.sInst) i y.1, ())
    | none => none

theorem and_bif (a b : Bool) : (a && b) = bif a then b else false := by cases a <;> rfl

theorem wstep {i : M.Inst} {k : Nat} (hk : k < 56) {f : M.Inst_form} (hf : forms[k]? = some f) :
    X.inst_words_b2 ((X.inst_forms, ((k : Int), ())), (i, ())) =
      (bif f.op != i.Op then some (.next ((X.inst_forms, (((k + 1 : Nat) : Int), ())), (i, ()))) else match wbody f i with
        | some r => some (.ret ((r.1, (r.2.1, ())), ()))
        | none => none) := by
  have hg : List.getD (Vector.toList X.inst_forms) (Int.toNat (k : Int)) (dflt (Ty.st SId.sInst_form)) = f := by
    rw [forms_eq, Int.toNat_natCast]; exact getD_of hf
  have hw : IntKind.wrap IntKind.i64 ((k : Int) + 1) = ((k + 1 : Nat) : Int) := by rw [wrap64 (by omega) (by omega)]; rfl
  have h1 : decide ((k : Int) < 56) = true := by simp; omega
  have h2 : (decide ((0 : Int) ≤ (k : Int)) && decide ((k : Int) < (Nat.cast 56 : Int))) = true := by simp; omega
  unfold X.inst_words_b2
  simp only [hg, hw, h1, h2, cond_true, ext_eq, valid_op]
  cases hop : (f.op != i.Op) with
  | true => rfl
  | false =>
    simp only [cond_false]
    unfold wbody
    have hb : badf f i = (bif i.Byte then (bif (!f.bytes) then true else (bif (!(X.R05_Valid i.Src)) then true else (bif (!(X.R05_Valid i.Dst)) then true else ((bitOf BinOp.and IntKind.i64 i.Reg (7 : Int)) != i.Reg)))) else (bif (!(X.R05_Valid i.Src)) then true else (bif (!(X.R05_Valid i.Dst)) then true else ((bitOf BinOp.and IntKind.i64 i.Reg (7 : Int)) != i.Reg)))) := by
      unfold badf
      cases i.Byte <;> cases f.bytes <;> cases X.R05_Valid i.Src <;> cases X.R05_Valid i.Dst <;> rfl
    rw [← hb]
    cases badf f i with
    | true => rfl
    | false =>
      simp only [cond_false]
      unfold wl exs
      cases X.R05_Extended i.Src <;> cases X.R05_Extended i.Dst <;> simp only [cond_true, cond_false, List.append_nil, and_bif]
      · generalize X.inst_Decode _ = d
        cases d with
        | none => rfl
        | some y => 
          simp only [List.length_cons, List.length_nil]
          cases (y.2.1 == (Nat.cast (0 + 1) : Int)) <;> rfl
      · have e : ∀ a b : Int, HAppend.hAppend [a] [b] = [a, b] := fun _ _ => rfl
        simp only [e]
        generalize X.inst_Decode _ = d
        cases d with
        | none => rfl
        | some y => 
          simp only [List.length_cons, List.length_nil, Nat.zero_add, show 1 + 1 = 2 from rfl]
          cases (y.2.1 == (Nat.cast 2 : Int)) <;> rfl
      · have e : ∀ a b : Int, HAppend.hAppend [a] [b] = [a, b] := fun _ _ => rfl
        simp only [e]
        generalize X.inst_Decode _ = d
        cases d with
        | none => rfl
        | some y => 
          simp only [List.length_cons, List.length_nil, Nat.zero_add, show 1 + 1 = 2 from rfl]
          cases (y.2.1 == (Nat.cast 2 : Int)) <;> rfl
      · have e : ∀ a b c : Int, HAppend.hAppend (HAppend.hAppend [a] [b]) [c] = [a, b, c] := fun _ _ _ => rfl
        simp only [e]
        generalize X.inst_Decode _ = d
        cases d with
        | none => rfl
        | some y => 
          simp only [List.length_cons, List.length_nil, Nat.zero_add, show 1 + 1 = 2 from rfl, show 2 + 1 = 3 from rfl]
          cases (y.2.1 == (Nat.cast 3 : Int)) <;> rfl

theorem wstop {i : M.Inst} : X.inst_words_b2 ((X.inst_forms, (((56 : Nat) : Int), ())), (i, ())) = some (.brk ((), ())) := by
  unfold X.inst_words_b2
  have h1 : decide (((56 : Nat) : Int) < 56) = false := by decide
  simp only [h1, cond_false]

theorem wloop {i : M.Inst} : ∀ (k n fuel : Nat), k + n = 56 → k < fuel → iterO X.inst_words_b2 fuel ((X.inst_forms, ((n : Int), ())), (i, ())) =
    (match byOp i.Op (forms.drop n) with
      | some f => match wbody f i with
        | some r => some (.ret ((r.1, (r.2.1, ())), ()))
        | none => none
      | none => some (.brk ((), ())))
  | 0, n, fuel + 1, hk, _ => by
    obtain rfl : n = 56 := by omega
    have e : forms.drop 56 = [] := by rfl
    rw [e]
    exact it_brk wstop
  | k + 1, n, fuel + 1, hk, hl => by
    have hi : n < 56 := by omega
    have hlen : forms.length = 56 := rfl
    obtain ⟨f, hf⟩ : ∃ f, forms[n]? = some f := ⟨forms[n]'(by omega), by simp⟩
    have hd : forms.drop n = f :: forms.drop (n + 1) := by
      rw [List.drop_eq_getElem_cons (by omega)]
      congr 1
      exact Option.some.inj ((List.getElem?_eq_getElem (by omega)).symm.trans hf)
    have ih := wloop (i := i) k (n + 1) fuel (by omega) (by omega)
    rw [hd]
    have hs := wstep (i := i) hi hf
    unfold byOp
    cases h1 : (f.op != i.Op) with
    | true => rw [h1] at hs; exact (it_next hs).trans ih
    | false =>
      rw [h1] at hs
      simp only [cond_false] at hs ⊢
      cases hb : wbody f i with
      | none => rw [hb] at hs; simp only [iterO, hs]
      | some r => rw [hb] at hs; exact it_ret hs

theorem words_eq (i : M.Inst) : X.inst_words i = (match byOp i.Op forms with
    | some f => wbody f i
    | none => some ([], false, ())) := by
  unfold X.inst_words X.inst_words_l2
  have := wloop (i := i) 56 0 (100 + Int.toNat 0) rfl (by omega)
  have e : ((X.inst_forms, ((0 : Int), ())), (i, ())) = (((X.inst_forms, (((0 : Nat) : Int), ())), (i, ())) : (((Vector M.Inst_form 56) × Int × Unit) × (M.Inst × Unit))) := rfl
  simp only [e, this, List.drop_zero]
  cases byOp i.Op forms with
  | none => rfl
  | some f =>
    simp only
    cases wbody f i with
    | none => rfl
    | some r => rfl

theorem bif_or (a b : Bool) : (bif a then true else b) = (a || b) := by cases a <;> rfl
theorem bif_and (a b : Bool) : (bif a then b else false) = (a && b) := by cases a <;> rfl
theorem bif_nand (a b : Bool) : (bif a then false else b) = (!a && b) := by cases a <;> rfl

structure OV (o : M.Operand) : Prop where
  mode : 0 ≤ o.Mode ∧ o.Mode ≤ 7
  reg : 0 ≤ o.Reg ∧ o.Reg ≤ 7
  ext : 0 ≤ o.Ext ∧ o.Ext ≤ 65535
  no : o.Ext = 0 ∨ X.R05_Extended o = true

theorem ov_of {o : M.Operand} (h : X.R05_Valid o = true) : OV o := by
  unfold X.R05_Valid at h
  simp only [bif_or, bif_nand, Bool.and_eq_true, Bool.not_eq_true', Bool.or_eq_false_iff, decide_eq_false_iff_not, Bool.or_eq_true, beq_iff_eq] at h
  obtain ⟨⟨h1, h2, h3, h4, h5, h6⟩, h7⟩ := h
  exact ⟨by omega, by omega, by omega, h7⟩

theorem vEqB_true {c : Ty} {x y : den c} (h : vEqB c x y = true) : x = y := by
  unfold vEqB at h
  exact @of_decide_eq_true _ (decDen c x y) h
theorem vEqB_dec {c : Ty} {x y : den c} : vEqB c x y = true ↔ x = y := ⟨vEqB_true, fun h => by subst h; unfold vEqB; exact @decide_eq_true _ (decDen c x x) rfl⟩

structure VI (i : M.Inst) : Prop where
  op : 1 ≤ i.Op ∧ i.Op ≤ 56
  byte : i.Byte = true → X.R06_Hasbyte i.Op = true
  src : X.R06_Hassrc i.Op = true ∧ OV i.Src ∨ X.R06_Hassrc i.Op = false ∧ i.Src = ⟨0, 0, 0⟩
  dst : X.R06_Hasdst i.Op = true ∧ OV i.Dst ∨ X.R06_Hasdst i.Op = false ∧ i.Dst = ⟨0, 0, 0⟩
  reg : 0 ≤ i.Reg ∧ i.Reg ≤ 7
  reg2 : i.Reg = 0 ∨ X.R06_Hasreg i.Op = true
  num : X.R06_least i.Op ≤ i.Num ∧ i.Num ≤ X.R06_greatest i.Op
  al : alw i = true

theorem opd_inv {h : Bool} {s : M.Operand} (k : (bif h then (bif (!(X.R05_Valid s)) then true else (bif (!h) then (!(vEqB (Ty.st SId.sOperand) s (⟨(0 : Int), (0 : Int), (0 : Int)⟩ : M.Operand))) else false)) else (bif (!h) then (!(vEqB (Ty.st SId.sOperand) s (⟨(0 : Int), (0 : Int), (0 : Int)⟩ : M.Operand))) else false)) = false) : h = true ∧ OV s ∨ h = false ∧ s = ⟨0, 0, 0⟩ := by
  cases h with
  | true =>
    left
    refine ⟨rfl, ov_of ?_⟩
    cases hv : X.R05_Valid s with
    | true => rfl
    | false => rw [hv] at k; cases k
  | false =>
    right
    refine ⟨rfl, ?_⟩
    have e : vEqB (Ty.st SId.sOperand) s (⟨(0 : Int), (0 : Int), (0 : Int)⟩ : M.Operand) = true := by
      cases hv : vEqB (Ty.st SId.sOperand) s (⟨(0 : Int), (0 : Int), (0 : Int)⟩ : M.Operand) with
      | true => rfl
      | false => rw [hv] at k; cases k
    exact vEqB_true e

theorem valid_inv {i : M.Inst} (h : X.R06_Valid i = true) : VI i := by
  unfold X.R06_Valid at h
  rw [bif_nand, Bool.and_eq_true] at h
  obtain ⟨a1, h⟩ := h
  rw [bif_nand, Bool.and_eq_true] at h
  obtain ⟨a2, h⟩ := h
  rw [bif_nand, Bool.and_eq_true] at h
  obtain ⟨a3, h⟩ := h
  rw [bif_nand, Bool.and_eq_true] at h
  obtain ⟨a4, h⟩ := h
  rw [bif_nand, Bool.and_eq_true] at h
  obtain ⟨a5, h⟩ := h
  rw [Bool.not_eq_true'] at a1 a2 a3 a4 a5
  have b2 := opd_inv a2
  have b3 := opd_inv a3
  simp only [bif_or, bif_and, Bool.or_eq_false_iff, decide_eq_false_iff_not] at a1
  obtain ⟨o1, o2, o3⟩ := a1
  simp only [bif_or, bif_and, Bool.or_eq_false_iff, decide_eq_false_iff_not] at a4
  obtain ⟨r1, r2, r3⟩ := a4
  have n : ¬ i.Num < X.R06_least i.Op ∧ ¬ i.Num > X.R06_greatest i.Op ∧ (i.Reg = 0 ∨ X.R06_Hasreg i.Op = true) := by
    cases hr : (i.Reg != 0) with
    | true =>
      rw [hr] at r3
      simp only [cond_true, Bool.or_eq_false_iff, decide_eq_false_iff_not, Bool.not_eq_false'] at r3
      exact ⟨r3.2.1, r3.2.2, .inr r3.1⟩
    | false =>
      rw [hr] at r3
      simp only [cond_false, Bool.or_eq_false_iff, decide_eq_false_iff_not] at r3
      exact ⟨r3.1, r3.2, .inl (by simpa using hr)⟩
  refine ⟨by omega, fun hb => ?_, b2, b3, by omega, n.2.2, by omega, ?_⟩
  · rw [hb] at o3
    simpa using o3
  · unfold alw
    revert a5 h
    cases (i.Op == 9) <;> cases h41 : (i.Op == 41) <;> cases h42 : (i.Op == 42) <;> cases (Int.tmod i.Reg 2 == 1) <;> cases (i.Dst.Mode != 0) <;> simp_all
end PL
end Go.Proofs.Ytnonimnhninafaa.Ab
