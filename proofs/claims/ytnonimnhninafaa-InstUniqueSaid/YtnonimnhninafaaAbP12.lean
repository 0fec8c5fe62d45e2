/- What words, Encode, Valid, Length, Ends and Privileged return. -/
import Derived.Test.YtnonimnhninafaaAbP11
namespace Go.Proofs.Ytnonimnhninafaa.Ab
open Go
set_option linter.unusedVariables false
set_option linter.unusedSimpArgs false
namespace PL
set_option maxRecDepth 100000

theorem cond_ite {α : Type} (c : Bool) (x y : α) : (bif c then x else y) = if c = true then x else y := by cases c <;> rfl

theorem dec_valid {l : List Int} {y : M.Inst × Int × Unit} (h : X.R06_Decode l = some y) (hn : y.2.1 ≠ 0) : X.R06_Valid y.1 = true := by
  have key : ∀ (V : M.Inst) (k : Int), (bif (!(X.R06_Valid V)) then some ((⟨(0 : Int), false, (⟨(0 : Int), (0 : Int), (0 : Int)⟩ : M.Operand), (⟨(0 : Int), (0 : Int), (0 : Int)⟩ : M.Operand), (0 : Int), (0 : Int)⟩ : M.Inst), (0 : Int), ()) else some (V, k, ())) = some y → X.R06_Valid y.1 = true := fun V k h => by
    cases hv : X.R06_Valid V with
    | true => rw [hv] at h; cases h; exact hv
    | false => rw [hv] at h; cases h; exact absurd rfl hn
  have zero : some ((⟨(0 : Int), false, (⟨(0 : Int), (0 : Int), (0 : Int)⟩ : M.Operand), (⟨(0 : Int), (0 : Int), (0 : Int)⟩ : M.Operand), (0 : Int), (0 : Int)⟩ : M.Inst), (0 : Int), ()) = some y → X.R06_Valid y.1 = true := fun h => by cases h; exact absurd rfl hn
  have none' : (none : Option (M.Inst × Int × Unit)) = some y → X.R06_Valid y.1 = true := fun h => by cases h
  have two : ∀ (c : Bool) (a b : Option (M.Inst × Int × Unit)), (a = some y → X.R06_Valid y.1 = true) → (b = some y → X.R06_Valid y.1 = true) → (bif c then a else b) = some y → X.R06_Valid y.1 = true := fun c a b h1 h2 h => by
    cases c with
    | true => exact h1 h
    | false => exact h2 h
  revert h
  unfold X.R06_Decode
  repeat' first
    | exact zero
    | exact none'
    | exact key _ _
    | refine two _ _ _ ?_ ?_

theorem ov_valid {o : M.Operand} (h : OV o) : X.R05_Valid o = true := by
  have h1 := h.mode
  have h2 := h.reg
  have h3 := h.ext
  have e1 : decide (o.Mode < 0) = false := by simp; omega
  have e2 : decide (o.Mode > 7) = false := by simp; omega
  have e3 : decide (o.Reg < 0) = false := by simp; omega
  have e4 : decide (o.Reg > 7) = false := by simp; omega
  have e5 : decide (o.Ext < 0) = false := by simp; omega
  have e6 : decide (o.Ext > 65535) = false := by simp; omega
  unfold X.R05_Valid
  simp only [e1, e2, e3, e4, e5, e6, cond_false]
  rcases h.no with h | h
  · simp [h]
  · rw [h]; cases (o.Ext == 0) <;> rfl

theorem ext_z0 (o : M.Operand) : X.R05_Extended (z0 o) = X.R05_Extended o := rfl
theorem partS {i : M.Inst} (v : VI i) : (bif X.R06_Hassrc i.Op then X.R05_Extended i.Src else false) = X.R05_Extended i.Src := by
  rcases v.src with ⟨h, _⟩ | ⟨h, h2⟩
  · rw [h]; rfl
  · rw [h, h2]; rfl
theorem partD {i : M.Inst} (v : VI i) : (bif X.R06_Hasdst i.Op then X.R05_Extended i.Dst else false) = X.R05_Extended i.Dst := by
  rcases v.dst with ⟨h, _⟩ | ⟨h, h2⟩
  · rw [h]; rfl
  · rw [h, h2]; rfl
theorem z0_ext {o : M.Operand} (h : OV o) (he : X.R05_Extended o = false) : z0 o = o := by
  rcases h.no with h | h
  · unfold z0; rw [← h]
  · rw [he] at h; cases h
theorem isw {x : Int} (h : 0 ≤ x ∧ x < 65536) : X.R06_Isword x = true := by
  unfold X.R06_Isword
  have e1 : decide (x ≥ 0) = true := by simp; omega
  rw [e1]; simp; omega

def wds (i : M.Inst) : List Int := [X.R06_first i] ++ exs i.Src ++ exs i.Dst
theorem wds_len (i : M.Inst) : (wds i).length = 1 + ((bif X.R05_Extended i.Src then 1 else 0) + (bif X.R05_Extended i.Dst then 1 else 0)) := by
  unfold wds exs
  cases X.R05_Extended i.Src <;> cases X.R05_Extended i.Dst <;> rfl

/-- What the reference decodes of lists that begin like this. -/
theorem refdec {i : M.Inst} (v : VI i) (hv : X.R06_Valid i = true) {w : Int} (hw : 0 ≤ w ∧ w < 65536) (hs : X.R06_shape w = ⟨i.Op, i.Byte, z0 i.Src, z0 i.Dst, i.Reg, i.Num⟩) (rest : List Int) :
    X.R06_Decode ([w] ++ exs i.Src ++ exs i.Dst ++ rest) = some (i, ((wds i).length : Int), ()) := by
  have ps := partS v
  have pd := partD v
  have ws : X.R06_Isword i.Src.Ext = true := isw (by have := v.ovs.ext; omega)
  have wd : X.R06_Isword i.Dst.Ext = true := isw (by have := v.ovd.ext; omega)
  have zs := z0_ext v.ovs
  have zd := z0_ext v.ovd
  rw [wds_len]
  unfold X.R06_Decode exs
  have hi : ∀ s d, s = i.Src → d = i.Dst → (⟨i.Op, i.Byte, s, d, i.Reg, i.Num⟩ : M.Inst) = i := fun s d h1 h2 => by subst h1; subst h2; rfl
  have hz : ∀ o : M.Operand, (⟨(z0 o).Mode, (z0 o).Reg, o.Ext⟩ : M.Operand) = o := fun _ => rfl
  have e12 : IntKind.wrap IntKind.i64 ((1 : Int) + (1 : Int)) = 2 := rfl
  have e13 : IntKind.wrap IntKind.i64 ((2 : Int) + (1 : Int)) = 3 := rfl
  cases hS : X.R05_Extended i.Src with
  | false =>
    cases hD : X.R05_Extended i.Dst with
    | false =>
      rw [hS] at ps
      rw [hD] at pd
      simp only [cond_false, List.append_nil, List.cons_append, List.nil_append]
      generalize hg : List.getD (w :: rest) (0 : Nat) (dflt (Ty.int IntKind.i64)) = w'
      obtain rfl : w = w' := hg
      have hn : 1 ≤ (Nat.cast (List.length (w :: rest)) : Int) := by rw [List.length_cons]; omega
      generalize (Nat.cast (List.length (w :: rest)) : Int) = n at hn ⊢
      have e0 : (n == (0 : Int)) = false := by simp; omega
      have e1 : decide ((0 : Int) < n) = true := by simp; omega
      have e2 : decide ((0 : Int) ≤ (0 : Int)) = true := by decide
      simp only [e0, e1, e2, hs, isw hw, ext_z0, ps, pd, hS, hD, cond_false, cond_true, Bool.and_self, Bool.not_true, zs hS, zd hD, hv]
      rfl
    | true =>
      rw [hS] at ps
      rw [hD] at pd
      simp only [cond_false, cond_true, List.append_nil, List.cons_append, List.nil_append]
      generalize hg : List.getD (w :: i.Dst.Ext :: rest) (0 : Nat) (dflt (Ty.int IntKind.i64)) = w'
      obtain rfl : w = w' := hg
      generalize hg : List.getD (w :: i.Dst.Ext :: rest) (1 : Nat) (dflt (Ty.int IntKind.i64)) = x'
      obtain rfl : i.Dst.Ext = x' := hg
      have hn : 2 ≤ (Nat.cast (List.length (w :: i.Dst.Ext :: rest)) : Int) := by rw [List.length_cons, List.length_cons]; omega
      generalize (Nat.cast (List.length (w :: i.Dst.Ext :: rest)) : Int) = n at hn ⊢
      have e0 : (n == (0 : Int)) = false := by simp; omega
      have e1 : decide ((0 : Int) < n) = true := by simp; omega
      have e2 : decide ((0 : Int) ≤ (0 : Int)) = true := by decide
      have e3 : decide ((0 : Int) ≤ (1 : Int)) = true := by decide
      have e4 : decide ((1 : Int) < n) = true := by simp; omega
      have e5 : decide ((1 : Int) ≥ n) = false := by simp; omega
      simp only [e0, e1, e2, e3, e4, e5, hs, isw hw, ext_z0, ps, pd, hS, hD, cond_false, cond_true, Bool.and_self, Bool.not_true, zs hS, hz, wd, hv, e12]
      rfl
  | true =>
    cases hD : X.R05_Extended i.Dst with
    | false =>
      rw [hS] at ps
      rw [hD] at pd
      simp only [cond_false, cond_true, List.append_nil, List.cons_append, List.nil_append]
      generalize hg : List.getD (w :: i.Src.Ext :: rest) (0 : Nat) (dflt (Ty.int IntKind.i64)) = w'
      obtain rfl : w = w' := hg
      generalize hg : List.getD (w :: i.Src.Ext :: rest) (1 : Nat) (dflt (Ty.int IntKind.i64)) = x'
      obtain rfl : i.Src.Ext = x' := hg
      have hn : 2 ≤ (Nat.cast (List.length (w :: i.Src.Ext :: rest)) : Int) := by rw [List.length_cons, List.length_cons]; omega
      generalize (Nat.cast (List.length (w :: i.Src.Ext :: rest)) : Int) = n at hn ⊢
      have e0 : (n == (0 : Int)) = false := by simp; omega
      have e1 : decide ((0 : Int) < n) = true := by simp; omega
      have e2 : decide ((0 : Int) ≤ (0 : Int)) = true := by decide
      have e3 : decide ((0 : Int) ≤ (1 : Int)) = true := by decide
      have e4 : decide ((1 : Int) < n) = true := by simp; omega
      have e5 : decide ((1 : Int) ≥ n) = false := by simp; omega
      simp only [e0, e1, e2, e3, e4, e5, hs, isw hw, ext_z0, ps, pd, hS, hD, cond_false, cond_true, Bool.and_self, Bool.not_true, zd hD, hz, ws, hv, e12]
      rfl
    | true =>
      rw [hS] at ps
      rw [hD] at pd
      simp only [cond_true, List.append_nil, List.cons_append, List.nil_append, e12, e13]
      generalize hg : List.getD (w :: i.Src.Ext :: i.Dst.Ext :: rest) (0 : Nat) (dflt (Ty.int IntKind.i64)) = w'
      obtain rfl : w = w' := hg
      generalize hg : List.getD (w :: i.Src.Ext :: i.Dst.Ext :: rest) (1 : Nat) (dflt (Ty.int IntKind.i64)) = x'
      obtain rfl : i.Src.Ext = x' := hg
      generalize hg : List.getD (w :: i.Src.Ext :: i.Dst.Ext :: rest) (Int.toNat 2) (dflt (Ty.int IntKind.i64)) = y'
      obtain rfl : i.Dst.Ext = y' := hg
      have hn : 3 ≤ (Nat.cast (List.length (w :: i.Src.Ext :: i.Dst.Ext :: rest)) : Int) := by rw [List.length_cons, List.length_cons, List.length_cons]; omega
      have e0 : ((Nat.cast (List.length (w :: i.Src.Ext :: i.Dst.Ext :: rest)) : Int) == (0 : Int)) = false := by rw [beq_eq_false_iff_ne]; omega
      have e1 : decide ((0 : Int) < (Nat.cast (List.length (w :: i.Src.Ext :: i.Dst.Ext :: rest)) : Int)) = true := decide_eq_true (by omega)
      have e2 : decide ((0 : Int) ≤ (0 : Int)) = true := by decide
      have e3 : decide ((0 : Int) ≤ (1 : Int)) = true := by decide
      have e3' : decide ((0 : Int) ≤ (2 : Int)) = true := by decide
      have e4 : decide ((1 : Int) < (Nat.cast (List.length (w :: i.Src.Ext :: i.Dst.Ext :: rest)) : Int)) = true := decide_eq_true (by omega)
      have e5 : decide ((1 : Int) ≥ (Nat.cast (List.length (w :: i.Src.Ext :: i.Dst.Ext :: rest)) : Int)) = false := decide_eq_false (by omega)
      have e6 : decide ((2 : Int) < (Nat.cast (List.length (w :: i.Src.Ext :: i.Dst.Ext :: rest)) : Int)) = true := decide_eq_true (by omega)
      have e7 : decide ((2 : Int) ≥ (Nat.cast (List.length (w :: i.Src.Ext :: i.Dst.Ext :: rest)) : Int)) = false := decide_eq_false (by omega)
      simp only [e0, e1, e2, e3, e3', e4, e5, e6, e7, hs, isw hw, ext_z0, ps, pd, hS, hD, cond_false, cond_true, Bool.and_self, Bool.not_true, hz, ws, wd, hv]
      rfl

theorem words_true {i : M.Inst} (hv : X.R06_Valid i = true) : X.inst_words i = some (wds i, true, ()) := by
  have v := valid_inv hv
  obtain ⟨f, hf⟩ := byOp_ex v.op
  obtain ⟨hm, ho⟩ := byOp_some hf
  have t := tf_of hm
  obtain ⟨h1, h2, h3, h4⟩ := word_shape hf v
  have hwl : wl f i = wds i := by unfold wl wds; rw [h1]
  have hb : badf f i = false := by
    unfold badf
    rw [ov_valid v.ovs, ov_valid v.ovd, mask3]
    have e : (i.Reg % 8 != i.Reg) = false := by have := v.reg; simp; omega
    rw [e]
    cases hB : i.Byte with
    | false => rfl
    | true =>
      have k := v.byte hB
      rw [← ho, t.byte] at k
      rw [k]; rfl
  have hd : X.inst_Decode (wds i) = some (i, ((wds i).length : Int), ()) := by
    obtain ⟨r, k1, k2⟩ := decode_eq (wds i)
    have := refdec v hv ⟨h2, h3⟩ h4 []
    rw [List.append_nil] at this
    rw [k1, ← k2]; exact this
  have e : vEqB (Ty.st SId.sInst) i i = true := vEqB_dec.2 rfl
  rw [words_eq, hf]
  unfold wbody
  simp only [hb, cond_false, hwl, hd, beq_self_eq_true, e, Bool.and_self]

theorem words_false {i : M.Inst} (hv : X.R06_Valid i = false) : ∃ l, X.inst_words i = some (l, false, ()) := by
  rw [words_eq]
  cases hf : byOp i.Op forms with
  | none => exact ⟨_, rfl⟩
  | some f =>
    unfold wbody
    simp only
    cases hb : badf f i with
    | true => exact ⟨_, rfl⟩
    | false =>
      obtain ⟨y, k1, k2⟩ := decode_eq (wl f i)
      rw [k1]
      simp only [cond_false]
      refine ⟨wl f i, ?_⟩
      have e : ((y.2.1 == ((wl f i).length : Int)) && vEqB (Ty.st SId.sInst) i y.1) = false := by
        cases h1 : (y.2.1 == ((wl f i).length : Int)) with
        | false => rfl
        | true =>
          cases h2 : vEqB (Ty.st SId.sInst) i y.1 with
          | false => rfl
          | true =>
            have e1 : y.2.1 = ((wl f i).length : Int) := by simpa using h1
            have e2 : i = y.1 := vEqB_dec.1 h2
            have hn : y.2.1 ≠ 0 := by
              rw [e1]
              have : 0 < (wl f i).length := by unfold wl; simp
              omega
            have := dec_valid k2 hn
            rw [← e2, hv] at this
            cases this
      rw [e]

theorem enc_true {i : M.Inst} (hv : X.R06_Valid i = true) : X.R06_Encode i = (wds i, 0) := by
  have v := valid_inv hv
  unfold X.R06_Encode wds exs
  rw [hv, partS v, partD v]
  cases X.R05_Extended i.Src <;> cases X.R05_Extended i.Dst <;> rfl
theorem enc_false {i : M.Inst} (hv : X.R06_Valid i = false) : X.R06_Encode i = ([], 1) := by
  unfold X.R06_Encode; rw [hv]; rfl

theorem encode_eq (i : M.Inst) : X.inst_Encode i = some ((X.R06_Encode i).1, (X.R06_Encode i).2, ()) := by
  unfold X.inst_Encode
  cases hv : X.R06_Valid i with
  | true => rw [words_true hv, enc_true hv]; rfl
  | false =>
    obtain ⟨l, h⟩ := words_false hv
    rw [h, enc_false hv]; rfl
theorem valid_eq (i : M.Inst) : X.inst_Valid i = some (X.R06_Valid i, ()) := by
  unfold X.inst_Valid
  cases hv : X.R06_Valid i with
  | true => rw [words_true hv]
  | false =>
    obtain ⟨l, h⟩ := words_false hv
    rw [h]
theorem length_eq (i : M.Inst) : X.inst_Length i = some (X.R06_Length i, ()) := by
  unfold X.inst_Length X.R06_Length
  cases hv : X.R06_Valid i with
  | true => rw [words_true hv, enc_true hv]; rfl
  | false =>
    obtain ⟨l, h⟩ := words_false hv
    rw [h, enc_false hv]; rfl
theorem priv_eq (i : M.Inst) : X.inst_Privileged i = some (X.R06_Privileged i, ()) := by
  unfold X.inst_Privileged X.R06_Privileged
  rw [valid_eq]
  cases X.R06_Valid i <;> cases (i.Op == 50) <;> cases (i.Op == 51) <;> rfl

theorem dst_pc {o : M.Operand} (h : OV o) : vEqB (Ty.st SId.sOperand) o (⟨0, 7, 0⟩ : M.Operand) = (bif o.Mode == 0 then o.Reg == 7 else false) := by
  have key : vEqB (Ty.st SId.sOperand) o (⟨0, 7, 0⟩ : M.Operand) = true ↔ o = (⟨0, 7, 0⟩ : M.Operand) := vEqB_dec
  rw [Bool.eq_iff_iff]
  refine key.trans ?_
  constructor
  · rintro rfl; rfl
  · intro h1
    cases hm : (o.Mode == 0) with
    | false => rw [hm] at h1; cases h1
    | true =>
      rw [hm] at h1
      have e1 : o.Mode = 0 := by simpa using hm
      have e2 : o.Reg = 7 := by simpa using h1
      have e3 : o.Ext = 0 := by
        rcases h.no with k | k
        · exact k
        · unfold X.R05_Extended X.R05_Mode at k
          rw [mask3, e1] at k
          simp at k
      obtain ⟨m, r, x⟩ := o
      simp only at e1 e2 e3
      subst e1 e2 e3
      rfl

theorem ends_eq (i : M.Inst) : X.inst_Ends i = some (X.R06_Ends i, ()) := by
  unfold X.inst_Ends
  rw [valid_eq]
  cases hv : X.R06_Valid i with
  | false => unfold X.R06_Ends; rw [hv]; rfl
  | true =>
    have v := valid_inv hv
    have hd := dst_pc v.ovd
    have ho := v.op
    unfold X.R06_Ends
    simp only [hv, hd, X.R06_Isbranch, X.R06_Hasdst, X.R06_Isdouble, X.R06_Issingle]
    have hc : i.Op = 1 ∨ i.Op = 2 ∨ i.Op = 3 ∨ i.Op = 4 ∨ i.Op = 5 ∨ i.Op = 6 ∨ i.Op = 7 ∨ i.Op = 8 ∨ i.Op = 9 ∨ i.Op = 10 ∨ i.Op = 11 ∨ i.Op = 12 ∨ i.Op = 13 ∨ i.Op = 14 ∨ i.Op = 15 ∨ i.Op = 16 ∨ i.Op = 17 ∨ i.Op = 18 ∨ i.Op = 19 ∨ i.Op = 20 ∨ i.Op = 21 ∨ i.Op = 22 ∨ i.Op = 23 ∨ i.Op = 24 ∨ i.Op = 25 ∨ i.Op = 26 ∨ i.Op = 27 ∨ i.Op = 28 ∨ i.Op = 29 ∨ i.Op = 30 ∨ i.Op = 31 ∨ i.Op = 32 ∨ i.Op = 33 ∨ i.Op = 34 ∨ i.Op = 35 ∨ i.Op = 36 ∨ i.Op = 37 ∨ i.Op = 38 ∨ i.Op = 39 ∨ i.Op = 40 ∨ i.Op = 41 ∨ i.Op = 42 ∨ i.Op = 43 ∨ i.Op = 44 ∨ i.Op = 45 ∨ i.Op = 46 ∨ i.Op = 47 ∨ i.Op = 48 ∨ i.Op = 49 ∨ i.Op = 50 ∨ i.Op = 51 ∨ i.Op = 52 ∨ i.Op = 53 ∨ i.Op = 54 ∨ i.Op = 55 ∨ i.Op = 56 := by omega
    rcases hc with h | h | h | h | h | h | h | h | h | h | h | h | h | h | h | h | h | h | h | h | h | h | h | h | h | h | h | h | h | h | h | h | h | h | h | h | h | h | h | h | h | h | h | h | h | h | h | h | h | h | h | h | h | h | h | h <;> rw [h] <;> rfl
end PL
end Go.Proofs.Ytnonimnhninafaa.Ab
