/- Which form a word has: the loop as a search. -/
import Derived.Test.YtnonimnhninafaaAbIkM
import Derived.Test.YtnonimnhninafaaAbPkA2
import Derived.Test.YtnonimnhninafaaAbPkB1

namespace Go.Proofs.Ytnonimnhninafaa.Ab
open Go
set_option linter.unusedVariables false
set_option linter.unusedSimpArgs false
namespace PL

def forms : List M.Inst_form := [
  ⟨4096, 12, 1, 1, true⟩, ⟨8192, 12, 2, 1, true⟩, ⟨12288, 12, 3, 1, true⟩, ⟨16384, 12, 4, 1, true⟩,
  ⟨20480, 12, 5, 1, true⟩, ⟨24576, 12, 6, 1, false⟩, ⟨57344, 12, 7, 1, false⟩, ⟨28672, 9, 8, 5, false⟩,
  ⟨29184, 9, 9, 5, false⟩, ⟨29696, 9, 10, 5, false⟩, ⟨30720, 9, 11, 6, false⟩, ⟨2560, 6, 12, 3, true⟩,
  ⟨2624, 6, 13, 3, true⟩, ⟨2688, 6, 14, 3, true⟩, ⟨2752, 6, 15, 3, true⟩, ⟨2816, 6, 16, 3, true⟩,
  ⟨2880, 6, 17, 3, true⟩, ⟨2944, 6, 18, 3, true⟩, ⟨3008, 6, 19, 3, true⟩, ⟨3072, 6, 20, 3, true⟩,
  ⟨3136, 6, 21, 3, true⟩, ⟨3200, 6, 22, 3, true⟩, ⟨3264, 6, 23, 3, true⟩, ⟨192, 6, 24, 3, false⟩,
  ⟨3520, 6, 25, 3, false⟩, ⟨3392, 6, 55, 2, false⟩, ⟨3456, 6, 56, 3, false⟩, ⟨64, 6, 41, 4, false⟩,
  ⟨2048, 9, 42, 7, false⟩, ⟨128, 3, 43, 8, false⟩, ⟨32256, 9, 44, 10, false⟩, ⟨256, 8, 26, 9, false⟩,
  ⟨512, 8, 27, 9, false⟩, ⟨768, 8, 28, 9, false⟩, ⟨1024, 8, 29, 9, false⟩, ⟨1280, 8, 30, 9, false⟩,
  ⟨1536, 8, 31, 9, false⟩, ⟨1792, 8, 32, 9, false⟩, ⟨32768, 8, 33, 9, false⟩, ⟨33024, 8, 34, 9, false⟩,
  ⟨33280, 8, 35, 9, false⟩, ⟨33536, 8, 36, 9, false⟩, ⟨33792, 8, 37, 9, false⟩, ⟨34048, 8, 38, 9, false⟩,
  ⟨34304, 8, 39, 9, false⟩, ⟨34560, 8, 40, 9, false⟩, ⟨34816, 8, 45, 11, false⟩, ⟨35072, 8, 46, 11, false⟩,
  ⟨160, 4, 53, 12, false⟩, ⟨176, 4, 54, 12, false⟩, ⟨0, 0, 50, 0, false⟩, ⟨1, 0, 51, 0, false⟩,
  ⟨2, 0, 49, 0, false⟩, ⟨3, 0, 47, 0, false⟩, ⟨4, 0, 48, 0, false⟩, ⟨5, 0, 52, 0, false⟩]

theorem forms_eq : Vector.toList X.inst_forms = forms := by kernel_rfl

def hit (f : M.Inst_form) (w : Int) : Int := IntKind.wrap IntKind.i64 ((Int.fdiv w ((2 : Int) ^ (Min.min (Int.toNat f.bits) (IntKind.bits IntKind.i64)))) * ((2 : Int) ^ (Min.min (Int.toNat f.bits) (IntKind.bits IntKind.i64))))

def search (w : Int) : List M.Inst_form → Option (M.Inst_form × Bool)
  | [] => none
  | f :: fs => bif hit f w == f.first then some (f, false) else bif hit f w == bitOf BinOp.or IntKind.i64 f.first 32768 then bif f.bytes then some (f, true) else search w fs else search w fs

theorem forms_bits : forms.all (fun f => decide (0 ≤ f.bits)) = true := by decide

theorem getD_of {α : Type} {l : List α} {i : Nat} {f d : α} (h : l[i]? = some f) : List.getD l i d = f := by rw [List.getD_eq_getElem?_getD, h]; rfl

theorem it_next {X E F R : Type} {b : X → Option (Out X E F R)} {n : Nat} {x x' : X} (h : b x = some (.next x')) : iterO b (n + 1) x = iterO b n x' := by simp only [iterO, h]
theorem it_ret {X E F R : Type} {b : X → Option (Out X E F R)} {n : Nat} {x : X} {r : R} (h : b x = some (.ret r)) : iterO b (n + 1) x = some (.ret r) := by simp only [iterO, h]
theorem it_brk {X E F R : Type} {b : X → Option (Out X E F R)} {n : Nat} {x : X} {r : E} (h : b x = some (.brk r)) : iterO b (n + 1) x = some (.brk r) := by simp only [iterO, h]

abbrev St := (Int × (Vector M.Inst_form 56) × Int × Unit) × (M.Inst_form × Unit)

theorem step {w : Int} {i : Nat} {z : M.Inst_form} (hi : i < 56) {f : M.Inst_form} (hf : forms[i]? = some f) :
    X.inst_formOf_b2 ((w, (X.inst_forms, ((i : Int), ()))), (z, ())) =
      (bif hit f w == f.first then some (.ret ((false, (true, ())), (f, ()))) else bif hit f w == bitOf BinOp.or IntKind.i64 f.first 32768 then bif f.bytes then some (.ret ((true, (true, ())), (f, ()))) else
        some (.next ((w, (X.inst_forms, (((i + 1 : Nat) : Int), ()))), (z, ()))) else some (.next ((w, (X.inst_forms, (((i + 1 : Nat) : Int), ()))), (z, ())))) := by
  have hg : List.getD (Vector.toList X.inst_forms) (Int.toNat (i : Int)) (dflt (Ty.st SId.sInst_form)) = f := by
    rw [forms_eq, Int.toNat_natCast]; exact getD_of hf
  have hb : (0 : Int) ≤ f.bits := by
    have := forms_bits
    simp only [List.all_eq_true, decide_eq_true_eq] at this
    exact this f (List.mem_of_getElem? hf)
  have hw : IntKind.wrap IntKind.i64 ((i : Int) + 1) = ((i + 1 : Nat) : Int) := by rw [wrap64 (by omega) (by omega)]; rfl
  unfold X.inst_formOf_b2
  simp only [hg, hw]
  have h1 : decide ((i : Int) < 56) = true := by simp; omega
  have h2 : (decide ((0 : Int) ≤ (i : Int)) && decide ((i : Int) < (Nat.cast 56 : Int))) = true := by simp; omega
  have h3 : decide ((0 : Int) ≤ f.bits) = true := by simp [hb]
  simp only [h1, h2, h3, cond_true]
  rfl

theorem stop {w : Int} {z : M.Inst_form} : X.inst_formOf_b2 ((w, (X.inst_forms, ((56 : Nat) : Int), ())), (z, ())) = some (.brk ((), (z, ()))) := by
  unfold X.inst_formOf_b2
  have h1 : decide (((56 : Nat) : Int) < 56) = false := by decide
  simp only [h1, cond_false]

theorem loop {w : Int} {z : M.Inst_form} : ∀ (k i fuel : Nat), k + i = 56 → k < fuel → iterO X.inst_formOf_b2 fuel ((w, (X.inst_forms, ((i : Int), ()))), (z, ())) =
    some (match search w (forms.drop i) with
      | some (f, b) => .ret ((b, (true, ())), (f, ()))
      | none => .brk ((), (z, ())))
  | 0, i, fuel + 1, hk, _ => by
    obtain rfl : i = 56 := by omega
    have e : forms.drop 56 = [] := by rfl
    rw [e]
    exact it_brk stop
  | k + 1, i, fuel + 1, hk, hl => by
    have hi : i < 56 := by omega
    have hlen : forms.length = 56 := rfl
    obtain ⟨f, hf⟩ : ∃ f, forms[i]? = some f := ⟨forms[i]'(by omega), by simp⟩
    have hd : forms.drop i = f :: forms.drop (i + 1) := by
      rw [List.drop_eq_getElem_cons (by omega)]
      congr 1
      exact Option.some.inj ((List.getElem?_eq_getElem (by omega)).symm.trans hf)
    have ih := loop (w := w) (z := z) k (i + 1) fuel (by omega) (by omega)
    rw [hd]
    have hs := step (w := w) (z := z) hi hf
    unfold search
    cases h1 : (hit f w == f.first) with
    | true => rw [h1] at hs; exact it_ret hs
    | false =>
      rw [h1] at hs
      cases h2 : (hit f w == bitOf BinOp.or IntKind.i64 f.first 32768) with
      | true =>
        rw [h2] at hs
        cases h3 : f.bytes with
        | true => rw [h3] at hs; exact it_ret hs
        | false => rw [h3] at hs; exact (it_next hs).trans ih
      | false => rw [h2] at hs; exact (it_next hs).trans ih

theorem formOf_eq (w : Int) : X.inst_formOf w = some (match search w forms with
    | some (f, b) => (f, b, true, ())
    | none => (⟨0, 0, 0, 0, false⟩, false, false, ())) := by
  unfold X.inst_formOf X.inst_formOf_l2
  have := loop (w := w) (z := ⟨0, 0, 0, 0, false⟩) 56 0 (100 + Int.toNat w + Int.toNat 0) rfl (by omega)
  have e : ((w, (X.inst_forms, ((0 : Int), ()))), ((⟨0, 0, 0, 0, false⟩ : M.Inst_form), ())) = (((w, (X.inst_forms, (((0 : Nat) : Int), ()))), ((⟨0, 0, 0, 0, false⟩ : M.Inst_form), ())) : St) := rfl
  simp only [e, this, List.drop_zero]
  cases search w forms with
  | none => rfl
  | some p => rfl

theorem search_some {w : Int} : ∀ {fs : List M.Inst_form} {f : M.Inst_form} {b : Bool}, search w fs = some (f, b) → f ∈ fs ∧ (b = false ∧ hit f w = f.first ∨ b = true ∧ f.bytes = true ∧ hit f w = bitOf BinOp.or IntKind.i64 f.first 32768)
  | [], f, b, h => by simp [search] at h
  | g :: fs, f, b, h => by
    unfold search at h
    cases h1 : (hit g w == g.first) with
    | true =>
      rw [h1] at h
      simp only [cond_true, Option.some.injEq, Prod.mk.injEq] at h
      obtain ⟨rfl, rfl⟩ := h
      exact ⟨by simp, .inl ⟨rfl, by simpa using h1⟩⟩
    | false =>
      rw [h1] at h
      cases h2 : (hit g w == bitOf BinOp.or IntKind.i64 g.first 32768) with
      | true =>
        rw [h2] at h
        cases h3 : g.bytes with
        | true =>
          rw [h3] at h
          simp only [cond_true, cond_false, Option.some.injEq, Prod.mk.injEq] at h
          obtain ⟨rfl, rfl⟩ := h
          exact ⟨by simp, .inr ⟨rfl, h3, by simpa using h2⟩⟩
        | false =>
          rw [h3] at h
          obtain ⟨k1, k2⟩ := search_some (fs := fs) h
          exact ⟨by simp [k1], k2⟩
      | false =>
        rw [h2] at h
        obtain ⟨k1, k2⟩ := search_some (fs := fs) h
        exact ⟨by simp [k1], k2⟩

theorem search_none {w : Int} : ∀ {fs : List M.Inst_form}, search w fs = none → ∀ f ∈ fs, hit f w ≠ f.first ∧ (f.bytes = true → hit f w ≠ bitOf BinOp.or IntKind.i64 f.first 32768)
  | [], h, f, hf => by simp at hf
  | g :: fs, h, f, hf => by
    unfold search at h
    cases h1 : (hit g w == g.first) with
    | true => rw [h1] at h; cases h
    | false =>
      rw [h1] at h
      cases h2 : (hit g w == bitOf BinOp.or IntKind.i64 g.first 32768) with
      | true =>
        rw [h2] at h
        cases h3 : g.bytes with
        | true => rw [h3] at h; cases h
        | false =>
          rw [h3] at h
          rcases List.mem_cons.1 hf with rfl | hf
          · exact ⟨by simpa using h1, fun h4 => by rw [h3] at h4; cases h4⟩
          · exact search_none (fs := fs) h f hf
      | false =>
        rw [h2] at h
        rcases List.mem_cons.1 hf with rfl | hf
        · exact ⟨by simpa using h1, fun _ => by simpa using h2⟩
        · exact search_none (fs := fs) h f hf

end PL
end Go.Proofs.Ytnonimnhninafaa.Ab

/- The reference's shape of a word, in a plain form; printed by a program of the session. -/
namespace Go.Proofs.Ytnonimnhninafaa.Ab
open Go
set_option linter.unusedVariables false
set_option linter.unusedSimpArgs false
namespace PL
set_option maxRecDepth 100000

def frm (a : Int) : M.Operand := ⟨a / 8 % 8, a % 8, 0⟩
def sgn (a : Int) : Int := if a > 127 then a - 256 else a
theorem frm_mod (a : Int) : frm (a % 64) = frm a := by unfold frm; congr 1 <;> omega
theorem mask3 (x : Int) : bitOf BinOp.and IntKind.i64 x 7 = x % 8 := and_mask x 3 (by decide)
theorem mask4 (x : Int) : bitOf BinOp.and IntKind.i64 x 15 = x % 16 := and_mask x 4 (by decide)
theorem mask6 (x : Int) : bitOf BinOp.and IntKind.i64 x 63 = x % 64 := and_mask x 6 (by decide)
theorem mask8 (x : Int) : bitOf BinOp.and IntKind.i64 x 255 = x % 256 := and_mask x 8 (by decide)
theorem mask16 (x : Int) : bitOf BinOp.and IntKind.i64 x 65535 = x % 65536 := and_mask x 16 (by decide)
theorem from05 {a : Int} : X.R05_From a = frm a := by
  unfold X.R05_From frm
  rw [mask6]
  simp (disch := omega) only [Int.tdiv_eq_ediv_of_nonneg, Int.tmod_eq_emod_of_nonneg, wrap64]
  congr 1 <;> omega
theorem from_ {a : Int} : X.operand_From a = frm a := by
  unfold X.operand_From frm
  rw [mask3, mask3]
  have : Int.fdiv a ((2 : Int) ^ (3 : Nat)) = a / 8 := by rw [show ((2 : Int) ^ (3 : Nat)) = 8 from rfl, Int.fdiv_eq_ediv_of_nonneg _ (by decide)]
  rw [this]
theorem fd6 (a : Int) : Int.fdiv a ((2 : Int) ^ (6 : Nat)) = a / 64 := by rw [show ((2 : Int) ^ (6 : Nat)) = 64 from rfl, Int.fdiv_eq_ediv_of_nonneg _ (by decide)]
theorem signed05 {a : Int} (h0 : 0 ≤ a) (h1 : a < 65536) : X.R06_signed a = sgn a := by
  unfold X.R06_signed sgn
  by_cases h : a > 127
  · rw [if_pos h]; simp only [h, decide_true, cond_true]; exact wrap64 (by omega) (by omega)
  · rw [if_neg h]; simp only [h, decide_false, cond_false]
theorem bif_if {α : Type} {c : Bool} {p : Prop} [Decidable p] {x y x' y' : α} (hc : c = true ↔ p) (hx : x = x') (hy : y = y') : (bif c then x else y) = if p then x' else y' := by
  cases c with
  | true => rw [if_pos (hc.1 rfl), ← hx]; rfl
  | false => rw [if_neg (fun h => by cases hc.2 h), ← hy]; rfl
theorem inst_ext {o o' : Int} {b : Bool} {s s' d d' : M.Operand} {r r' n n' : Int} (h1 : o = o') (h2 : s = s') (h3 : d = d') (h4 : r = r') (h5 : n = n') : (⟨o, b, s, d, r, n⟩ : M.Inst) = ⟨o', b, s', d', r', n'⟩ := by
  subst h1; subst h2; subst h3; subst h4; subst h5; rfl

def shp (a : Int) : M.Inst :=
  if (a / 4096) ≥ 1 ∧ (a / 4096) ≤ 5 then (⟨(1 + ((a / 4096) - 1)), false, (frm (a / 64)), (frm a), 0, 0⟩ : M.Inst)
  else if (a / 4096) ≥ 9 ∧ (a / 4096) ≤ 13 then (⟨(1 + ((a / 4096) - 9)), true, (frm (a / 64)), (frm a), 0, 0⟩ : M.Inst)
  else if (a / 4096) = 6 then (⟨6, false, (frm (a / 64)), (frm a), 0, 0⟩ : M.Inst)
  else if (a / 4096) = 14 then (⟨7, false, (frm (a / 64)), (frm a), 0, 0⟩ : M.Inst)
  else if (a / 512) ≥ 56 ∧ (a / 512) ≤ 58 then (⟨(8 + ((a / 512) - 56)), false, (frm a), (⟨0, 0, 0⟩ : M.Operand), ((a / 64) % 8), 0⟩ : M.Inst)
  else if (a / 512) = 60 then (⟨11, false, (⟨0, 0, 0⟩ : M.Operand), (frm a), ((a / 64) % 8), 0⟩ : M.Inst)
  else if (a / 512) = 63 then (⟨44, false, (⟨0, 0, 0⟩ : M.Operand), (⟨0, 0, 0⟩ : M.Operand), ((a / 64) % 8), (a % 64)⟩ : M.Inst)
  else if (a / 64) ≥ 40 ∧ (a / 64) ≤ 47 then (⟨(12 + ((a / 64) - 40)), false, (⟨0, 0, 0⟩ : M.Operand), (frm a), 0, 0⟩ : M.Inst)
  else if (a / 64) ≥ 552 ∧ (a / 64) ≤ 559 then (⟨(12 + ((a / 64) - 552)), true, (⟨0, 0, 0⟩ : M.Operand), (frm a), 0, 0⟩ : M.Inst)
  else if (a / 64) ≥ 48 ∧ (a / 64) ≤ 51 then (⟨(20 + ((a / 64) - 48)), false, (⟨0, 0, 0⟩ : M.Operand), (frm a), 0, 0⟩ : M.Inst)
  else if (a / 64) ≥ 560 ∧ (a / 64) ≤ 563 then (⟨(20 + ((a / 64) - 560)), true, (⟨0, 0, 0⟩ : M.Operand), (frm a), 0, 0⟩ : M.Inst)
  else if (a / 64) = 3 then (⟨24, false, (⟨0, 0, 0⟩ : M.Operand), (frm a), 0, 0⟩ : M.Inst)
  else if (a / 64) = 55 then (⟨25, false, (⟨0, 0, 0⟩ : M.Operand), (frm a), 0, 0⟩ : M.Inst)
  else if (a / 64) = 53 then (⟨55, false, (frm a), (⟨0, 0, 0⟩ : M.Operand), 0, 0⟩ : M.Inst)
  else if (a / 64) = 54 then (⟨56, false, (⟨0, 0, 0⟩ : M.Operand), (frm a), 0, 0⟩ : M.Inst)
  else if (a / 64) = 1 then (⟨41, false, (⟨0, 0, 0⟩ : M.Operand), (frm a), 0, 0⟩ : M.Inst)
  else if (a / 512) = 4 then (⟨42, false, (⟨0, 0, 0⟩ : M.Operand), (frm a), ((a / 64) % 8), 0⟩ : M.Inst)
  else if (a / 8) = 16 then (⟨43, false, (⟨0, 0, 0⟩ : M.Operand), (⟨0, 0, 0⟩ : M.Operand), (a % 8), 0⟩ : M.Inst)
  else if (a / 256) ≥ 1 ∧ (a / 256) ≤ 7 then (⟨(26 + ((a / 256) - 1)), false, (⟨0, 0, 0⟩ : M.Operand), (⟨0, 0, 0⟩ : M.Operand), 0, (sgn (a % 256))⟩ : M.Inst)
  else if (a / 256) ≥ 128 ∧ (a / 256) ≤ 135 then (⟨(33 + ((a / 256) - 128)), false, (⟨0, 0, 0⟩ : M.Operand), (⟨0, 0, 0⟩ : M.Operand), 0, (sgn (a % 256))⟩ : M.Inst)
  else if (a / 256) = 136 then (⟨45, false, (⟨0, 0, 0⟩ : M.Operand), (⟨0, 0, 0⟩ : M.Operand), 0, (a % 256)⟩ : M.Inst)
  else if (a / 256) = 137 then (⟨46, false, (⟨0, 0, 0⟩ : M.Operand), (⟨0, 0, 0⟩ : M.Operand), 0, (a % 256)⟩ : M.Inst)
  else if (a / 16) = 10 then (⟨53, false, (⟨0, 0, 0⟩ : M.Operand), (⟨0, 0, 0⟩ : M.Operand), 0, (a % 16)⟩ : M.Inst)
  else if (a / 16) = 11 then (⟨54, false, (⟨0, 0, 0⟩ : M.Operand), (⟨0, 0, 0⟩ : M.Operand), 0, (a % 16)⟩ : M.Inst)
  else if a = 0 then (⟨50, false, (⟨0, 0, 0⟩ : M.Operand), (⟨0, 0, 0⟩ : M.Operand), 0, 0⟩ : M.Inst)
  else if a = 1 then (⟨51, false, (⟨0, 0, 0⟩ : M.Operand), (⟨0, 0, 0⟩ : M.Operand), 0, 0⟩ : M.Inst)
  else if a = 2 then (⟨49, false, (⟨0, 0, 0⟩ : M.Operand), (⟨0, 0, 0⟩ : M.Operand), 0, 0⟩ : M.Inst)
  else if a = 3 then (⟨47, false, (⟨0, 0, 0⟩ : M.Operand), (⟨0, 0, 0⟩ : M.Operand), 0, 0⟩ : M.Inst)
  else if a = 4 then (⟨48, false, (⟨0, 0, 0⟩ : M.Operand), (⟨0, 0, 0⟩ : M.Operand), 0, 0⟩ : M.Inst)
  else if a = 5 then (⟨52, false, (⟨0, 0, 0⟩ : M.Operand), (⟨0, 0, 0⟩ : M.Operand), 0, 0⟩ : M.Inst)
  else (⟨0, false, (⟨0, 0, 0⟩ : M.Operand), (⟨0, 0, 0⟩ : M.Operand), 0, 0⟩ : M.Inst)

theorem shape_eq {a : Int} (h0 : 0 ≤ a) (h1 : a < 65536) : X.R06_shape a = shp a := by
  unfold X.R06_shape shp
  refine bif_if (by first | (simp (disch := omega) only [Int.tdiv_eq_ediv_of_nonneg, wrap64]; simp) | simp) (by simp (disch := omega) only [Int.tdiv_eq_ediv_of_nonneg, Int.tmod_eq_emod_of_nonneg, wrap64, from05, frm_mod, signed05]) ?_
  refine bif_if (by first | (simp (disch := omega) only [Int.tdiv_eq_ediv_of_nonneg, wrap64]; simp) | simp) (by simp (disch := omega) only [Int.tdiv_eq_ediv_of_nonneg, Int.tmod_eq_emod_of_nonneg, wrap64, from05, frm_mod, signed05]) ?_
  refine bif_if (by first | (simp (disch := omega) only [Int.tdiv_eq_ediv_of_nonneg, wrap64]; simp) | simp) (by simp (disch := omega) only [Int.tdiv_eq_ediv_of_nonneg, Int.tmod_eq_emod_of_nonneg, wrap64, from05, frm_mod, signed05]) ?_
  refine bif_if (by first | (simp (disch := omega) only [Int.tdiv_eq_ediv_of_nonneg, wrap64]; simp) | simp) (by simp (disch := omega) only [Int.tdiv_eq_ediv_of_nonneg, Int.tmod_eq_emod_of_nonneg, wrap64, from05, frm_mod, signed05]) ?_
  refine bif_if (by first | (simp (disch := omega) only [Int.tdiv_eq_ediv_of_nonneg, wrap64]; simp) | simp) (by simp (disch := omega) only [Int.tdiv_eq_ediv_of_nonneg, Int.tmod_eq_emod_of_nonneg, wrap64, from05, frm_mod, signed05]) ?_
  refine bif_if (by first | (simp (disch := omega) only [Int.tdiv_eq_ediv_of_nonneg, wrap64]; simp) | simp) (by simp (disch := omega) only [Int.tdiv_eq_ediv_of_nonneg, Int.tmod_eq_emod_of_nonneg, wrap64, from05, frm_mod, signed05]) ?_
  refine bif_if (by first | (simp (disch := omega) only [Int.tdiv_eq_ediv_of_nonneg, wrap64]; simp) | simp) (by simp (disch := omega) only [Int.tdiv_eq_ediv_of_nonneg, Int.tmod_eq_emod_of_nonneg, wrap64, from05, frm_mod, signed05]) ?_
  refine bif_if (by first | (simp (disch := omega) only [Int.tdiv_eq_ediv_of_nonneg, wrap64]; simp) | simp) (by simp (disch := omega) only [Int.tdiv_eq_ediv_of_nonneg, Int.tmod_eq_emod_of_nonneg, wrap64, from05, frm_mod, signed05]) ?_
  refine bif_if (by first | (simp (disch := omega) only [Int.tdiv_eq_ediv_of_nonneg, wrap64]; simp) | simp) (by simp (disch := omega) only [Int.tdiv_eq_ediv_of_nonneg, Int.tmod_eq_emod_of_nonneg, wrap64, from05, frm_mod, signed05]) ?_
  refine bif_if (by first | (simp (disch := omega) only [Int.tdiv_eq_ediv_of_nonneg, wrap64]; simp) | simp) (by simp (disch := omega) only [Int.tdiv_eq_ediv_of_nonneg, Int.tmod_eq_emod_of_nonneg, wrap64, from05, frm_mod, signed05]) ?_
  refine bif_if (by first | (simp (disch := omega) only [Int.tdiv_eq_ediv_of_nonneg, wrap64]; simp) | simp) (by simp (disch := omega) only [Int.tdiv_eq_ediv_of_nonneg, Int.tmod_eq_emod_of_nonneg, wrap64, from05, frm_mod, signed05]) ?_
  refine bif_if (by first | (simp (disch := omega) only [Int.tdiv_eq_ediv_of_nonneg, wrap64]; simp) | simp) (by simp (disch := omega) only [Int.tdiv_eq_ediv_of_nonneg, Int.tmod_eq_emod_of_nonneg, wrap64, from05, frm_mod, signed05]) ?_
  refine bif_if (by first | (simp (disch := omega) only [Int.tdiv_eq_ediv_of_nonneg, wrap64]; simp) | simp) (by simp (disch := omega) only [Int.tdiv_eq_ediv_of_nonneg, Int.tmod_eq_emod_of_nonneg, wrap64, from05, frm_mod, signed05]) ?_
  refine bif_if (by first | (simp (disch := omega) only [Int.tdiv_eq_ediv_of_nonneg, wrap64]; simp) | simp) (by simp (disch := omega) only [Int.tdiv_eq_ediv_of_nonneg, Int.tmod_eq_emod_of_nonneg, wrap64, from05, frm_mod, signed05]) ?_
  refine bif_if (by first | (simp (disch := omega) only [Int.tdiv_eq_ediv_of_nonneg, wrap64]; simp) | simp) (by simp (disch := omega) only [Int.tdiv_eq_ediv_of_nonneg, Int.tmod_eq_emod_of_nonneg, wrap64, from05, frm_mod, signed05]) ?_
  refine bif_if (by first | (simp (disch := omega) only [Int.tdiv_eq_ediv_of_nonneg, wrap64]; simp) | simp) (by simp (disch := omega) only [Int.tdiv_eq_ediv_of_nonneg, Int.tmod_eq_emod_of_nonneg, wrap64, from05, frm_mod, signed05]) ?_
  refine bif_if (by first | (simp (disch := omega) only [Int.tdiv_eq_ediv_of_nonneg, wrap64]; simp) | simp) (by simp (disch := omega) only [Int.tdiv_eq_ediv_of_nonneg, Int.tmod_eq_emod_of_nonneg, wrap64, from05, frm_mod, signed05]) ?_
  refine bif_if (by first | (simp (disch := omega) only [Int.tdiv_eq_ediv_of_nonneg, wrap64]; simp) | simp) (by simp (disch := omega) only [Int.tdiv_eq_ediv_of_nonneg, Int.tmod_eq_emod_of_nonneg, wrap64, from05, frm_mod, signed05]) ?_
  refine bif_if (by first | (simp (disch := omega) only [Int.tdiv_eq_ediv_of_nonneg, wrap64]; simp) | simp) (by simp (disch := omega) only [Int.tdiv_eq_ediv_of_nonneg, Int.tmod_eq_emod_of_nonneg, wrap64, from05, frm_mod, signed05]) ?_
  refine bif_if (by first | (simp (disch := omega) only [Int.tdiv_eq_ediv_of_nonneg, wrap64]; simp) | simp) (by simp (disch := omega) only [Int.tdiv_eq_ediv_of_nonneg, Int.tmod_eq_emod_of_nonneg, wrap64, from05, frm_mod, signed05]) ?_
  refine bif_if (by first | (simp (disch := omega) only [Int.tdiv_eq_ediv_of_nonneg, wrap64]; simp) | simp) (by simp (disch := omega) only [Int.tdiv_eq_ediv_of_nonneg, Int.tmod_eq_emod_of_nonneg, wrap64, from05, frm_mod, signed05]) ?_
  refine bif_if (by first | (simp (disch := omega) only [Int.tdiv_eq_ediv_of_nonneg, wrap64]; simp) | simp) (by simp (disch := omega) only [Int.tdiv_eq_ediv_of_nonneg, Int.tmod_eq_emod_of_nonneg, wrap64, from05, frm_mod, signed05]) ?_
  refine bif_if (by first | (simp (disch := omega) only [Int.tdiv_eq_ediv_of_nonneg, wrap64]; simp) | simp) (by simp (disch := omega) only [Int.tdiv_eq_ediv_of_nonneg, Int.tmod_eq_emod_of_nonneg, wrap64, from05, frm_mod, signed05]) ?_
  refine bif_if (by first | (simp (disch := omega) only [Int.tdiv_eq_ediv_of_nonneg, wrap64]; simp) | simp) (by simp (disch := omega) only [Int.tdiv_eq_ediv_of_nonneg, Int.tmod_eq_emod_of_nonneg, wrap64, from05, frm_mod, signed05]) ?_
  refine bif_if (by first | (simp (disch := omega) only [Int.tdiv_eq_ediv_of_nonneg, wrap64]; simp) | simp) (by simp (disch := omega) only [Int.tdiv_eq_ediv_of_nonneg, Int.tmod_eq_emod_of_nonneg, wrap64, from05, frm_mod, signed05]) ?_
  refine bif_if (by first | (simp (disch := omega) only [Int.tdiv_eq_ediv_of_nonneg, wrap64]; simp) | simp) (by simp (disch := omega) only [Int.tdiv_eq_ediv_of_nonneg, Int.tmod_eq_emod_of_nonneg, wrap64, from05, frm_mod, signed05]) ?_
  refine bif_if (by first | (simp (disch := omega) only [Int.tdiv_eq_ediv_of_nonneg, wrap64]; simp) | simp) (by simp (disch := omega) only [Int.tdiv_eq_ediv_of_nonneg, Int.tmod_eq_emod_of_nonneg, wrap64, from05, frm_mod, signed05]) ?_
  refine bif_if (by first | (simp (disch := omega) only [Int.tdiv_eq_ediv_of_nonneg, wrap64]; simp) | simp) (by simp (disch := omega) only [Int.tdiv_eq_ediv_of_nonneg, Int.tmod_eq_emod_of_nonneg, wrap64, from05, frm_mod, signed05]) ?_
  refine bif_if (by first | (simp (disch := omega) only [Int.tdiv_eq_ediv_of_nonneg, wrap64]; simp) | simp) (by simp (disch := omega) only [Int.tdiv_eq_ediv_of_nonneg, Int.tmod_eq_emod_of_nonneg, wrap64, from05, frm_mod, signed05]) ?_
  refine bif_if (by first | (simp (disch := omega) only [Int.tdiv_eq_ediv_of_nonneg, wrap64]; simp) | simp) (by simp (disch := omega) only [Int.tdiv_eq_ediv_of_nonneg, Int.tmod_eq_emod_of_nonneg, wrap64, from05, frm_mod, signed05]) ?_
  rfl

theorem s0 {a : Int} (h : a / 4096 * 4096 = 4096) : shp a = (⟨1, false, frm (a / 64), frm a, 0, 0⟩ : M.Inst) := by
  rw [shp, if_pos (by omega)] <;>
  first | rfl | exact inst_ext (by omega) rfl rfl rfl rfl
theorem s0w {a : Int} (h : a / 4096 * 4096 = 36864) : shp a = (⟨1, true, frm (a / 64), frm a, 0, 0⟩ : M.Inst) := by
  rw [shp, if_neg (by omega), if_pos (by omega)] <;>
  first | rfl | exact inst_ext (by omega) rfl rfl rfl rfl
theorem s1 {a : Int} (h : a / 4096 * 4096 = 8192) : shp a = (⟨2, false, frm (a / 64), frm a, 0, 0⟩ : M.Inst) := by
  rw [shp, if_pos (by omega)] <;>
  first | rfl | exact inst_ext (by omega) rfl rfl rfl rfl
theorem s1w {a : Int} (h : a / 4096 * 4096 = 40960) : shp a = (⟨2, true, frm (a / 64), frm a, 0, 0⟩ : M.Inst) := by
  rw [shp, if_neg (by omega), if_pos (by omega)] <;>
  first | rfl | exact inst_ext (by omega) rfl rfl rfl rfl
theorem s2 {a : Int} (h : a / 4096 * 4096 = 12288) : shp a = (⟨3, false, frm (a / 64), frm a, 0, 0⟩ : M.Inst) := by
  rw [shp, if_pos (by omega)] <;>
  first | rfl | exact inst_ext (by omega) rfl rfl rfl rfl
theorem s2w {a : Int} (h : a / 4096 * 4096 = 45056) : shp a = (⟨3, true, frm (a / 64), frm a, 0, 0⟩ : M.Inst) := by
  rw [shp, if_neg (by omega), if_pos (by omega)] <;>
  first | rfl | exact inst_ext (by omega) rfl rfl rfl rfl
theorem s3 {a : Int} (h : a / 4096 * 4096 = 16384) : shp a = (⟨4, false, frm (a / 64), frm a, 0, 0⟩ : M.Inst) := by
  rw [shp, if_pos (by omega)] <;>
  first | rfl | exact inst_ext (by omega) rfl rfl rfl rfl
theorem s3w {a : Int} (h : a / 4096 * 4096 = 49152) : shp a = (⟨4, true, frm (a / 64), frm a, 0, 0⟩ : M.Inst) := by
  rw [shp, if_neg (by omega), if_pos (by omega)] <;>
  first | rfl | exact inst_ext (by omega) rfl rfl rfl rfl
theorem s4 {a : Int} (h : a / 4096 * 4096 = 20480) : shp a = (⟨5, false, frm (a / 64), frm a, 0, 0⟩ : M.Inst) := by
  rw [shp, if_pos (by omega)] <;>
  first | rfl | exact inst_ext (by omega) rfl rfl rfl rfl
theorem s4w {a : Int} (h : a / 4096 * 4096 = 53248) : shp a = (⟨5, true, frm (a / 64), frm a, 0, 0⟩ : M.Inst) := by
  rw [shp, if_neg (by omega), if_pos (by omega)] <;>
  first | rfl | exact inst_ext (by omega) rfl rfl rfl rfl
theorem s5 {a : Int} (h : a / 4096 * 4096 = 24576) : shp a = (⟨6, false, frm (a / 64), frm a, 0, 0⟩ : M.Inst) := by
  rw [shp, if_neg (by omega), if_neg (by omega), if_pos (by omega)] <;>
  first | rfl | exact inst_ext (by omega) rfl rfl rfl rfl
theorem s6 {a : Int} (h : a / 4096 * 4096 = 57344) : shp a = (⟨7, false, frm (a / 64), frm a, 0, 0⟩ : M.Inst) := by
  rw [shp, if_neg (by omega), if_neg (by omega), if_neg (by omega), if_pos (by omega)] <;>
  first | rfl | exact inst_ext (by omega) rfl rfl rfl rfl
theorem s7 {a : Int} (h : a / 512 * 512 = 28672) : shp a = (⟨8, false, frm a, (⟨0, 0, 0⟩ : M.Operand), a / 64 % 8, 0⟩ : M.Inst) := by
  rw [shp, if_neg (by omega), if_neg (by omega), if_neg (by omega), if_neg (by omega), if_pos (by omega)] <;>
  first | rfl | exact inst_ext (by omega) rfl rfl rfl rfl
theorem s8 {a : Int} (h : a / 512 * 512 = 29184) : shp a = (⟨9, false, frm a, (⟨0, 0, 0⟩ : M.Operand), a / 64 % 8, 0⟩ : M.Inst) := by
  rw [shp, if_neg (by omega), if_neg (by omega), if_neg (by omega), if_neg (by omega), if_pos (by omega)] <;>
  first | rfl | exact inst_ext (by omega) rfl rfl rfl rfl
theorem s9 {a : Int} (h : a / 512 * 512 = 29696) : shp a = (⟨10, false, frm a, (⟨0, 0, 0⟩ : M.Operand), a / 64 % 8, 0⟩ : M.Inst) := by
  rw [shp, if_neg (by omega), if_neg (by omega), if_neg (by omega), if_neg (by omega), if_pos (by omega)] <;>
  first | rfl | exact inst_ext (by omega) rfl rfl rfl rfl
theorem s10 {a : Int} (h : a / 512 * 512 = 30720) : shp a = (⟨11, false, (⟨0, 0, 0⟩ : M.Operand), frm a, a / 64 % 8, 0⟩ : M.Inst) := by
  rw [shp, if_neg (by omega), if_neg (by omega), if_neg (by omega), if_neg (by omega), if_neg (by omega), if_pos (by omega)] <;>
  first | rfl | exact inst_ext (by omega) rfl rfl rfl rfl
theorem s11 {a : Int} (h : a / 64 * 64 = 2560) : shp a = (⟨12, false, (⟨0, 0, 0⟩ : M.Operand), frm a, 0, 0⟩ : M.Inst) := by
  rw [shp, if_neg (by omega), if_neg (by omega), if_neg (by omega), if_neg (by omega), if_neg (by omega), if_neg (by omega), if_neg (by omega), if_pos (by omega)] <;>
  first | rfl | exact inst_ext (by omega) rfl rfl rfl rfl
theorem s11w {a : Int} (h : a / 64 * 64 = 35328) : shp a = (⟨12, true, (⟨0, 0, 0⟩ : M.Operand), frm a, 0, 0⟩ : M.Inst) := by
  rw [shp, if_neg (by omega), if_neg (by omega), if_neg (by omega), if_neg (by omega), if_neg (by omega), if_neg (by omega), if_neg (by omega), if_neg (by omega), if_pos (by omega)] <;>
  first | rfl | exact inst_ext (by omega) rfl rfl rfl rfl
theorem s12 {a : Int} (h : a / 64 * 64 = 2624) : shp a = (⟨13, false, (⟨0, 0, 0⟩ : M.Operand), frm a, 0, 0⟩ : M.Inst) := by
  rw [shp, if_neg (by omega), if_neg (by omega), if_neg (by omega), if_neg (by omega), if_neg (by omega), if_neg (by omega), if_neg (by omega), if_pos (by omega)] <;>
  first | rfl | exact inst_ext (by omega) rfl rfl rfl rfl
theorem s12w {a : Int} (h : a / 64 * 64 = 35392) : shp a = (⟨13, true, (⟨0, 0, 0⟩ : M.Operand), frm a, 0, 0⟩ : M.Inst) := by
  rw [shp, if_neg (by omega), if_neg (by omega), if_neg (by omega), if_neg (by omega), if_neg (by omega), if_neg (by omega), if_neg (by omega), if_neg (by omega), if_pos (by omega)] <;>
  first | rfl | exact inst_ext (by omega) rfl rfl rfl rfl
theorem s13 {a : Int} (h : a / 64 * 64 = 2688) : shp a = (⟨14, false, (⟨0, 0, 0⟩ : M.Operand), frm a, 0, 0⟩ : M.Inst) := by
  rw [shp, if_neg (by omega), if_neg (by omega), if_neg (by omega), if_neg (by omega), if_neg (by omega), if_neg (by omega), if_neg (by omega), if_pos (by omega)] <;>
  first | rfl | exact inst_ext (by omega) rfl rfl rfl rfl
theorem s13w {a : Int} (h : a / 64 * 64 = 35456) : shp a = (⟨14, true, (⟨0, 0, 0⟩ : M.Operand), frm a, 0, 0⟩ : M.Inst) := by
  rw [shp, if_neg (by omega), if_neg (by omega), if_neg (by omega), if_neg (by omega), if_neg (by omega), if_neg (by omega), if_neg (by omega), if_neg (by omega), if_pos (by omega)] <;>
  first | rfl | exact inst_ext (by omega) rfl rfl rfl rfl
theorem s14 {a : Int} (h : a / 64 * 64 = 2752) : shp a = (⟨15, false, (⟨0, 0, 0⟩ : M.Operand), frm a, 0, 0⟩ : M.Inst) := by
  rw [shp, if_neg (by omega), if_neg (by omega), if_neg (by omega), if_neg (by omega), if_neg (by omega), if_neg (by omega), if_neg (by omega), if_pos (by omega)] <;>
  first | rfl | exact inst_ext (by omega) rfl rfl rfl rfl
theorem s14w {a : Int} (h : a / 64 * 64 = 35520) : shp a = (⟨15, true, (⟨0, 0, 0⟩ : M.Operand), frm a, 0, 0⟩ : M.Inst) := by
  rw [shp, if_neg (by omega), if_neg (by omega), if_neg (by omega), if_neg (by omega), if_neg (by omega), if_neg (by omega), if_neg (by omega), if_neg (by omega), if_pos (by omega)] <;>
  first | rfl | exact inst_ext (by omega) rfl rfl rfl rfl
theorem s15 {a : Int} (h : a / 64 * 64 = 2816) : shp a = (⟨16, false, (⟨0, 0, 0⟩ : M.Operand), frm a, 0, 0⟩ : M.Inst) := by
  rw [shp, if_neg (by omega), if_neg (by omega), if_neg (by omega), if_neg (by omega), if_neg (by omega), if_neg (by omega), if_neg (by omega), if_pos (by omega)] <;>
  first | rfl | exact inst_ext (by omega) rfl rfl rfl rfl
theorem s15w {a : Int} (h : a / 64 * 64 = 35584) : shp a = (⟨16, true, (⟨0, 0, 0⟩ : M.Operand), frm a, 0, 0⟩ : M.Inst) := by
  rw [shp, if_neg (by omega), if_neg (by omega), if_neg (by omega), if_neg (by omega), if_neg (by omega), if_neg (by omega), if_neg (by omega), if_neg (by omega), if_pos (by omega)] <;>
  first | rfl | exact inst_ext (by omega) rfl rfl rfl rfl
theorem s16 {a : Int} (h : a / 64 * 64 = 2880) : shp a = (⟨17, false, (⟨0, 0, 0⟩ : M.Operand), frm a, 0, 0⟩ : M.Inst) := by
  rw [shp, if_neg (by omega), if_neg (by omega), if_neg (by omega), if_neg (by omega), if_neg (by omega), if_neg (by omega), if_neg (by omega), if_pos (by omega)] <;>
  first | rfl | exact inst_ext (by omega) rfl rfl rfl rfl
theorem s16w {a : Int} (h : a / 64 * 64 = 35648) : shp a = (⟨17, true, (⟨0, 0, 0⟩ : M.Operand), frm a, 0, 0⟩ : M.Inst) := by
  rw [shp, if_neg (by omega), if_neg (by omega), if_neg (by omega), if_neg (by omega), if_neg (by omega), if_neg (by omega), if_neg (by omega), if_neg (by omega), if_pos (by omega)] <;>
  first | rfl | exact inst_ext (by omega) rfl rfl rfl rfl
theorem s17 {a : Int} (h : a / 64 * 64 = 2944) : shp a = (⟨18, false, (⟨0, 0, 0⟩ : M.Operand), frm a, 0, 0⟩ : M.Inst) := by
  rw [shp, if_neg (by omega), if_neg (by omega), if_neg (by omega), if_neg (by omega), if_neg (by omega), if_neg (by omega), if_neg (by omega), if_pos (by omega)] <;>
  first | rfl | exact inst_ext (by omega) rfl rfl rfl rfl
theorem s17w {a : Int} (h : a / 64 * 64 = 35712) : shp a = (⟨18, true, (⟨0, 0, 0⟩ : M.Operand), frm a, 0, 0⟩ : M.Inst) := by
  rw [shp, if_neg (by omega), if_neg (by omega), if_neg (by omega), if_neg (by omega), if_neg (by omega), if_neg (by omega), if_neg (by omega), if_neg (by omega), if_pos (by omega)] <;>
  first | rfl | exact inst_ext (by omega) rfl rfl rfl rfl
theorem s18 {a : Int} (h : a / 64 * 64 = 3008) : shp a = (⟨19, false, (⟨0, 0, 0⟩ : M.Operand), frm a, 0, 0⟩ : M.Inst) := by
  rw [shp, if_neg (by omega), if_neg (by omega), if_neg (by omega), if_neg (by omega), if_neg (by omega), if_neg (by omega), if_neg (by omega), if_pos (by omega)] <;>
  first | rfl | exact inst_ext (by omega) rfl rfl rfl rfl
theorem s18w {a : Int} (h : a / 64 * 64 = 35776) : shp a = (⟨19, true, (⟨0, 0, 0⟩ : M.Operand), frm a, 0, 0⟩ : M.Inst) := by
  rw [shp, if_neg (by omega), if_neg (by omega), if_neg (by omega), if_neg (by omega), if_neg (by omega), if_neg (by omega), if_neg (by omega), if_neg (by omega), if_pos (by omega)] <;>
  first | rfl | exact inst_ext (by omega) rfl rfl rfl rfl
theorem s19 {a : Int} (h : a / 64 * 64 = 3072) : shp a = (⟨20, false, (⟨0, 0, 0⟩ : M.Operand), frm a, 0, 0⟩ : M.Inst) := by
  rw [shp, if_neg (by omega), if_neg (by omega), if_neg (by omega), if_neg (by omega), if_neg (by omega), if_neg (by omega), if_neg (by omega), if_neg (by omega), if_neg (by omega), if_pos (by omega)] <;>
  first | rfl | exact inst_ext (by omega) rfl rfl rfl rfl
theorem s19w {a : Int} (h : a / 64 * 64 = 35840) : shp a = (⟨20, true, (⟨0, 0, 0⟩ : M.Operand), frm a, 0, 0⟩ : M.Inst) := by
  rw [shp, if_neg (by omega), if_neg (by omega), if_neg (by omega), if_neg (by omega), if_neg (by omega), if_neg (by omega), if_neg (by omega), if_neg (by omega), if_neg (by omega), if_neg (by omega), if_pos (by omega)] <;>
  first | rfl | exact inst_ext (by omega) rfl rfl rfl rfl
theorem s20 {a : Int} (h : a / 64 * 64 = 3136) : shp a = (⟨21, false, (⟨0, 0, 0⟩ : M.Operand), frm a, 0, 0⟩ : M.Inst) := by
  rw [shp, if_neg (by omega), if_neg (by omega), if_neg (by omega), if_neg (by omega), if_neg (by omega), if_neg (by omega), if_neg (by omega), if_neg (by omega), if_neg (by omega), if_pos (by omega)] <;>
  first | rfl | exact inst_ext (by omega) rfl rfl rfl rfl
theorem s20w {a : Int} (h : a / 64 * 64 = 35904) : shp a = (⟨21, true, (⟨0, 0, 0⟩ : M.Operand), frm a, 0, 0⟩ : M.Inst) := by
  rw [shp, if_neg (by omega), if_neg (by omega), if_neg (by omega), if_neg (by omega), if_neg (by omega), if_neg (by omega), if_neg (by omega), if_neg (by omega), if_neg (by omega), if_neg (by omega), if_pos (by omega)] <;>
  first | rfl | exact inst_ext (by omega) rfl rfl rfl rfl
theorem s21 {a : Int} (h : a / 64 * 64 = 3200) : shp a = (⟨22, false, (⟨0, 0, 0⟩ : M.Operand), frm a, 0, 0⟩ : M.Inst) := by
  rw [shp, if_neg (by omega), if_neg (by omega), if_neg (by omega), if_neg (by omega), if_neg (by omega), if_neg (by omega), if_neg (by omega), if_neg (by omega), if_neg (by omega), if_pos (by omega)] <;>
  first | rfl | exact inst_ext (by omega) rfl rfl rfl rfl
theorem s21w {a : Int} (h : a / 64 * 64 = 35968) : shp a = (⟨22, true, (⟨0, 0, 0⟩ : M.Operand), frm a, 0, 0⟩ : M.Inst) := by
  rw [shp, if_neg (by omega), if_neg (by omega), if_neg (by omega), if_neg (by omega), if_neg (by omega), if_neg (by omega), if_neg (by omega), if_neg (by omega), if_neg (by omega), if_neg (by omega), if_pos (by omega)] <;>
  first | rfl | exact inst_ext (by omega) rfl rfl rfl rfl
theorem s22 {a : Int} (h : a / 64 * 64 = 3264) : shp a = (⟨23, false, (⟨0, 0, 0⟩ : M.Operand), frm a, 0, 0⟩ : M.Inst) := by
  rw [shp, if_neg (by omega), if_neg (by omega), if_neg (by omega), if_neg (by omega), if_neg (by omega), if_neg (by omega), if_neg (by omega), if_neg (by omega), if_neg (by omega), if_pos (by omega)] <;>
  first | rfl | exact inst_ext (by omega) rfl rfl rfl rfl
theorem s22w {a : Int} (h : a / 64 * 64 = 36032) : shp a = (⟨23, true, (⟨0, 0, 0⟩ : M.Operand), frm a, 0, 0⟩ : M.Inst) := by
  rw [shp, if_neg (by omega), if_neg (by omega), if_neg (by omega), if_neg (by omega), if_neg (by omega), if_neg (by omega), if_neg (by omega), if_neg (by omega), if_neg (by omega), if_neg (by omega), if_pos (by omega)] <;>
  first | rfl | exact inst_ext (by omega) rfl rfl rfl rfl
theorem s23 {a : Int} (h : a / 64 * 64 = 192) : shp a = (⟨24, false, (⟨0, 0, 0⟩ : M.Operand), frm a, 0, 0⟩ : M.Inst) := by
  rw [shp, if_neg (by omega), if_neg (by omega), if_neg (by omega), if_neg (by omega), if_neg (by omega), if_neg (by omega), if_neg (by omega), if_neg (by omega), if_neg (by omega), if_neg (by omega), if_neg (by omega), if_pos (by omega)] <;>
  first | rfl | exact inst_ext (by omega) rfl rfl rfl rfl
theorem s24 {a : Int} (h : a / 64 * 64 = 3520) : shp a = (⟨25, false, (⟨0, 0, 0⟩ : M.Operand), frm a, 0, 0⟩ : M.Inst) := by
  rw [shp, if_neg (by omega), if_neg (by omega), if_neg (by omega), if_neg (by omega), if_neg (by omega), if_neg (by omega), if_neg (by omega), if_neg (by omega), if_neg (by omega), if_neg (by omega), if_neg (by omega), if_neg (by omega), if_pos (by omega)] <;>
  first | rfl | exact inst_ext (by omega) rfl rfl rfl rfl
theorem s25 {a : Int} (h : a / 64 * 64 = 3392) : shp a = (⟨55, false, frm a, (⟨0, 0, 0⟩ : M.Operand), 0, 0⟩ : M.Inst) := by
  rw [shp, if_neg (by omega), if_neg (by omega), if_neg (by omega), if_neg (by omega), if_neg (by omega), if_neg (by omega), if_neg (by omega), if_neg (by omega), if_neg (by omega), if_neg (by omega), if_neg (by omega), if_neg (by omega), if_neg (by omega), if_pos (by omega)] <;>
  first | rfl | exact inst_ext (by omega) rfl rfl rfl rfl
theorem s26 {a : Int} (h : a / 64 * 64 = 3456) : shp a = (⟨56, false, (⟨0, 0, 0⟩ : M.Operand), frm a, 0, 0⟩ : M.Inst) := by
  rw [shp, if_neg (by omega), if_neg (by omega), if_neg (by omega), if_neg (by omega), if_neg (by omega), if_neg (by omega), if_neg (by omega), if_neg (by omega), if_neg (by omega), if_neg (by omega), if_neg (by omega), if_neg (by omega), if_neg (by omega), if_neg (by omega), if_pos (by omega)] <;>
  first | rfl | exact inst_ext (by omega) rfl rfl rfl rfl
theorem s27 {a : Int} (h : a / 64 * 64 = 64) : shp a = (⟨41, false, (⟨0, 0, 0⟩ : M.Operand), frm a, 0, 0⟩ : M.Inst) := by
  rw [shp, if_neg (by omega), if_neg (by omega), if_neg (by omega), if_neg (by omega), if_neg (by omega), if_neg (by omega), if_neg (by omega), if_neg (by omega), if_neg (by omega), if_neg (by omega), if_neg (by omega), if_neg (by omega), if_neg (by omega), if_neg (by omega), if_neg (by omega), if_pos (by omega)] <;>
  first | rfl | exact inst_ext (by omega) rfl rfl rfl rfl
theorem s28 {a : Int} (h : a / 512 * 512 = 2048) : shp a = (⟨42, false, (⟨0, 0, 0⟩ : M.Operand), frm a, a / 64 % 8, 0⟩ : M.Inst) := by
  rw [shp, if_neg (by omega), if_neg (by omega), if_neg (by omega), if_neg (by omega), if_neg (by omega), if_neg (by omega), if_neg (by omega), if_neg (by omega), if_neg (by omega), if_neg (by omega), if_neg (by omega), if_neg (by omega), if_neg (by omega), if_neg (by omega), if_neg (by omega), if_neg (by omega), if_pos (by omega)] <;>
  first | rfl | exact inst_ext (by omega) rfl rfl rfl rfl
theorem s29 {a : Int} (h : a / 8 * 8 = 128) : shp a = (⟨43, false, (⟨0, 0, 0⟩ : M.Operand), (⟨0, 0, 0⟩ : M.Operand), a % 8, 0⟩ : M.Inst) := by
  rw [shp, if_neg (by omega), if_neg (by omega), if_neg (by omega), if_neg (by omega), if_neg (by omega), if_neg (by omega), if_neg (by omega), if_neg (by omega), if_neg (by omega), if_neg (by omega), if_neg (by omega), if_neg (by omega), if_neg (by omega), if_neg (by omega), if_neg (by omega), if_neg (by omega), if_neg (by omega), if_pos (by omega)] <;>
  first | rfl | exact inst_ext (by omega) rfl rfl rfl rfl
theorem s30 {a : Int} (h : a / 512 * 512 = 32256) : shp a = (⟨44, false, (⟨0, 0, 0⟩ : M.Operand), (⟨0, 0, 0⟩ : M.Operand), a / 64 % 8, a % 64⟩ : M.Inst) := by
  rw [shp, if_neg (by omega), if_neg (by omega), if_neg (by omega), if_neg (by omega), if_neg (by omega), if_neg (by omega), if_pos (by omega)] <;>
  first | rfl | exact inst_ext (by omega) rfl rfl rfl rfl
theorem s31 {a : Int} (h : a / 256 * 256 = 256) : shp a = (⟨26, false, (⟨0, 0, 0⟩ : M.Operand), (⟨0, 0, 0⟩ : M.Operand), 0, sgn (a % 256)⟩ : M.Inst) := by
  rw [shp, if_neg (by omega), if_neg (by omega), if_neg (by omega), if_neg (by omega), if_neg (by omega), if_neg (by omega), if_neg (by omega), if_neg (by omega), if_neg (by omega), if_neg (by omega), if_neg (by omega), if_neg (by omega), if_neg (by omega), if_neg (by omega), if_neg (by omega), if_neg (by omega), if_neg (by omega), if_neg (by omega), if_pos (by omega)] <;>
  first | rfl | exact inst_ext (by omega) rfl rfl rfl rfl
theorem s32 {a : Int} (h : a / 256 * 256 = 512) : shp a = (⟨27, false, (⟨0, 0, 0⟩ : M.Operand), (⟨0, 0, 0⟩ : M.Operand), 0, sgn (a % 256)⟩ : M.Inst) := by
  rw [shp, if_neg (by omega), if_neg (by omega), if_neg (by omega), if_neg (by omega), if_neg (by omega), if_neg (by omega), if_neg (by omega), if_neg (by omega), if_neg (by omega), if_neg (by omega), if_neg (by omega), if_neg (by omega), if_neg (by omega), if_neg (by omega), if_neg (by omega), if_neg (by omega), if_neg (by omega), if_neg (by omega), if_pos (by omega)] <;>
  first | rfl | exact inst_ext (by omega) rfl rfl rfl rfl
theorem s33 {a : Int} (h : a / 256 * 256 = 768) : shp a = (⟨28, false, (⟨0, 0, 0⟩ : M.Operand), (⟨0, 0, 0⟩ : M.Operand), 0, sgn (a % 256)⟩ : M.Inst) := by
  rw [shp, if_neg (by omega), if_neg (by omega), if_neg (by omega), if_neg (by omega), if_neg (by omega), if_neg (by omega), if_neg (by omega), if_neg (by omega), if_neg (by omega), if_neg (by omega), if_neg (by omega), if_neg (by omega), if_neg (by omega), if_neg (by omega), if_neg (by omega), if_neg (by omega), if_neg (by omega), if_neg (by omega), if_pos (by omega)] <;>
  first | rfl | exact inst_ext (by omega) rfl rfl rfl rfl
theorem s34 {a : Int} (h : a / 256 * 256 = 1024) : shp a = (⟨29, false, (⟨0, 0, 0⟩ : M.Operand), (⟨0, 0, 0⟩ : M.Operand), 0, sgn (a % 256)⟩ : M.Inst) := by
  rw [shp, if_neg (by omega), if_neg (by omega), if_neg (by omega), if_neg (by omega), if_neg (by omega), if_neg (by omega), if_neg (by omega), if_neg (by omega), if_neg (by omega), if_neg (by omega), if_neg (by omega), if_neg (by omega), if_neg (by omega), if_neg (by omega), if_neg (by omega), if_neg (by omega), if_neg (by omega), if_neg (by omega), if_pos (by omega)] <;>
  first | rfl | exact inst_ext (by omega) rfl rfl rfl rfl
theorem s35 {a : Int} (h : a / 256 * 256 = 1280) : shp a = (⟨30, false, (⟨0, 0, 0⟩ : M.Operand), (⟨0, 0, 0⟩ : M.Operand), 0, sgn (a % 256)⟩ : M.Inst) := by
  rw [shp, if_neg (by omega), if_neg (by omega), if_neg (by omega), if_neg (by omega), if_neg (by omega), if_neg (by omega), if_neg (by omega), if_neg (by omega), if_neg (by omega), if_neg (by omega), if_neg (by omega), if_neg (by omega), if_neg (by omega), if_neg (by omega), if_neg (by omega), if_neg (by omega), if_neg (by omega), if_neg (by omega), if_pos (by omega)] <;>
  first | rfl | exact inst_ext (by omega) rfl rfl rfl rfl
theorem s36 {a : Int} (h : a / 256 * 256 = 1536) : shp a = (⟨31, false, (⟨0, 0, 0⟩ : M.Operand), (⟨0, 0, 0⟩ : M.Operand), 0, sgn (a % 256)⟩ : M.Inst) := by
  rw [shp, if_neg (by omega), if_neg (by omega), if_neg (by omega), if_neg (by omega), if_neg (by omega), if_neg (by omega), if_neg (by omega), if_neg (by omega), if_neg (by omega), if_neg (by omega), if_neg (by omega), if_neg (by omega), if_neg (by omega), if_neg (by omega), if_neg (by omega), if_neg (by omega), if_neg (by omega), if_neg (by omega), if_pos (by omega)] <;>
  first | rfl | exact inst_ext (by omega) rfl rfl rfl rfl
theorem s37 {a : Int} (h : a / 256 * 256 = 1792) : shp a = (⟨32, false, (⟨0, 0, 0⟩ : M.Operand), (⟨0, 0, 0⟩ : M.Operand), 0, sgn (a % 256)⟩ : M.Inst) := by
  rw [shp, if_neg (by omega), if_neg (by omega), if_neg (by omega), if_neg (by omega), if_neg (by omega), if_neg (by omega), if_neg (by omega), if_neg (by omega), if_neg (by omega), if_neg (by omega), if_neg (by omega), if_neg (by omega), if_neg (by omega), if_neg (by omega), if_neg (by omega), if_neg (by omega), if_neg (by omega), if_neg (by omega), if_pos (by omega)] <;>
  first | rfl | exact inst_ext (by omega) rfl rfl rfl rfl
theorem s38 {a : Int} (h : a / 256 * 256 = 32768) : shp a = (⟨33, false, (⟨0, 0, 0⟩ : M.Operand), (⟨0, 0, 0⟩ : M.Operand), 0, sgn (a % 256)⟩ : M.Inst) := by
  rw [shp, if_neg (by omega), if_neg (by omega), if_neg (by omega), if_neg (by omega), if_neg (by omega), if_neg (by omega), if_neg (by omega), if_neg (by omega), if_neg (by omega), if_neg (by omega), if_neg (by omega), if_neg (by omega), if_neg (by omega), if_neg (by omega), if_neg (by omega), if_neg (by omega), if_neg (by omega), if_neg (by omega), if_neg (by omega), if_pos (by omega)] <;>
  first | rfl | exact inst_ext (by omega) rfl rfl rfl rfl
theorem s39 {a : Int} (h : a / 256 * 256 = 33024) : shp a = (⟨34, false, (⟨0, 0, 0⟩ : M.Operand), (⟨0, 0, 0⟩ : M.Operand), 0, sgn (a % 256)⟩ : M.Inst) := by
  rw [shp, if_neg (by omega), if_neg (by omega), if_neg (by omega), if_neg (by omega), if_neg (by omega), if_neg (by omega), if_neg (by omega), if_neg (by omega), if_neg (by omega), if_neg (by omega), if_neg (by omega), if_neg (by omega), if_neg (by omega), if_neg (by omega), if_neg (by omega), if_neg (by omega), if_neg (by omega), if_neg (by omega), if_neg (by omega), if_pos (by omega)] <;>
  first | rfl | exact inst_ext (by omega) rfl rfl rfl rfl
theorem s40 {a : Int} (h : a / 256 * 256 = 33280) : shp a = (⟨35, false, (⟨0, 0, 0⟩ : M.Operand), (⟨0, 0, 0⟩ : M.Operand), 0, sgn (a % 256)⟩ : M.Inst) := by
  rw [shp, if_neg (by omega), if_neg (by omega), if_neg (by omega), if_neg (by omega), if_neg (by omega), if_neg (by omega), if_neg (by omega), if_neg (by omega), if_neg (by omega), if_neg (by omega), if_neg (by omega), if_neg (by omega), if_neg (by omega), if_neg (by omega), if_neg (by omega), if_neg (by omega), if_neg (by omega), if_neg (by omega), if_neg (by omega), if_pos (by omega)] <;>
  first | rfl | exact inst_ext (by omega) rfl rfl rfl rfl
theorem s41 {a : Int} (h : a / 256 * 256 = 33536) : shp a = (⟨36, false, (⟨0, 0, 0⟩ : M.Operand), (⟨0, 0, 0⟩ : M.Operand), 0, sgn (a % 256)⟩ : M.Inst) := by
  rw [shp, if_neg (by omega), if_neg (by omega), if_neg (by omega), if_neg (by omega), if_neg (by omega), if_neg (by omega), if_neg (by omega), if_neg (by omega), if_neg (by omega), if_neg (by omega), if_neg (by omega), if_neg (by omega), if_neg (by omega), if_neg (by omega), if_neg (by omega), if_neg (by omega), if_neg (by omega), if_neg (by omega), if_neg (by omega), if_pos (by omega)] <;>
  first | rfl | exact inst_ext (by omega) rfl rfl rfl rfl
theorem s42 {a : Int} (h : a / 256 * 256 = 33792) : shp a = (⟨37, false, (⟨0, 0, 0⟩ : M.Operand), (⟨0, 0, 0⟩ : M.Operand), 0, sgn (a % 256)⟩ : M.Inst) := by
  rw [shp, if_neg (by omega), if_neg (by omega), if_neg (by omega), if_neg (by omega), if_neg (by omega), if_neg (by omega), if_neg (by omega), if_neg (by omega), if_neg (by omega), if_neg (by omega), if_neg (by omega), if_neg (by omega), if_neg (by omega), if_neg (by omega), if_neg (by omega), if_neg (by omega), if_neg (by omega), if_neg (by omega), if_neg (by omega), if_pos (by omega)] <;>
  first | rfl | exact inst_ext (by omega) rfl rfl rfl rfl
theorem s43 {a : Int} (h : a / 256 * 256 = 34048) : shp a = (⟨38, false, (⟨0, 0, 0⟩ : M.Operand), (⟨0, 0, 0⟩ : M.Operand), 0, sgn (a % 256)⟩ : M.Inst) := by
  rw [shp, if_neg (by omega), if_neg (by omega), if_neg (by omega), if_neg (by omega), if_neg (by omega), if_neg (by omega), if_neg (by omega), if_neg (by omega), if_neg (by omega), if_neg (by omega), if_neg (by omega), if_neg (by omega), if_neg (by omega), if_neg (by omega), if_neg (by omega), if_neg (by omega), if_neg (by omega), if_neg (by omega), if_neg (by omega), if_pos (by omega)] <;>
  first | rfl | exact inst_ext (by omega) rfl rfl rfl rfl
theorem s44 {a : Int} (h : a / 256 * 256 = 34304) : shp a = (⟨39, false, (⟨0, 0, 0⟩ : M.Operand), (⟨0, 0, 0⟩ : M.Operand), 0, sgn (a % 256)⟩ : M.Inst) := by
  rw [shp, if_neg (by omega), if_neg (by omega), if_neg (by omega), if_neg (by omega), if_neg (by omega), if_neg (by omega), if_neg (by omega), if_neg (by omega), if_neg (by omega), if_neg (by omega), if_neg (by omega), if_neg (by omega), if_neg (by omega), if_neg (by omega), if_neg (by omega), if_neg (by omega), if_neg (by omega), if_neg (by omega), if_neg (by omega), if_pos (by omega)] <;>
  first | rfl | exact inst_ext (by omega) rfl rfl rfl rfl
theorem s45 {a : Int} (h : a / 256 * 256 = 34560) : shp a = (⟨40, false, (⟨0, 0, 0⟩ : M.Operand), (⟨0, 0, 0⟩ : M.Operand), 0, sgn (a % 256)⟩ : M.Inst) := by
  rw [shp, if_neg (by omega), if_neg (by omega), if_neg (by omega), if_neg (by omega), if_neg (by omega), if_neg (by omega), if_neg (by omega), if_neg (by omega), if_neg (by omega), if_neg (by omega), if_neg (by omega), if_neg (by omega), if_neg (by omega), if_neg (by omega), if_neg (by omega), if_neg (by omega), if_neg (by omega), if_neg (by omega), if_neg (by omega), if_pos (by omega)] <;>
  first | rfl | exact inst_ext (by omega) rfl rfl rfl rfl
theorem s46 {a : Int} (h : a / 256 * 256 = 34816) : shp a = (⟨45, false, (⟨0, 0, 0⟩ : M.Operand), (⟨0, 0, 0⟩ : M.Operand), 0, a % 256⟩ : M.Inst) := by
  rw [shp, if_neg (by omega), if_neg (by omega), if_neg (by omega), if_neg (by omega), if_neg (by omega), if_neg (by omega), if_neg (by omega), if_neg (by omega), if_neg (by omega), if_neg (by omega), if_neg (by omega), if_neg (by omega), if_neg (by omega), if_neg (by omega), if_neg (by omega), if_neg (by omega), if_neg (by omega), if_neg (by omega), if_neg (by omega), if_neg (by omega), if_pos (by omega)] <;>
  first | rfl | exact inst_ext (by omega) rfl rfl rfl rfl
theorem s47 {a : Int} (h : a / 256 * 256 = 35072) : shp a = (⟨46, false, (⟨0, 0, 0⟩ : M.Operand), (⟨0, 0, 0⟩ : M.Operand), 0, a % 256⟩ : M.Inst) := by
  rw [shp, if_neg (by omega), if_neg (by omega), if_neg (by omega), if_neg (by omega), if_neg (by omega), if_neg (by omega), if_neg (by omega), if_neg (by omega), if_neg (by omega), if_neg (by omega), if_neg (by omega), if_neg (by omega), if_neg (by omega), if_neg (by omega), if_neg (by omega), if_neg (by omega), if_neg (by omega), if_neg (by omega), if_neg (by omega), if_neg (by omega), if_neg (by omega), if_pos (by omega)] <;>
  first | rfl | exact inst_ext (by omega) rfl rfl rfl rfl
theorem s48 {a : Int} (h : a / 16 * 16 = 160) : shp a = (⟨53, false, (⟨0, 0, 0⟩ : M.Operand), (⟨0, 0, 0⟩ : M.Operand), 0, a % 16⟩ : M.Inst) := by
  rw [shp, if_neg (by omega), if_neg (by omega), if_neg (by omega), if_neg (by omega), if_neg (by omega), if_neg (by omega), if_neg (by omega), if_neg (by omega), if_neg (by omega), if_neg (by omega), if_neg (by omega), if_neg (by omega), if_neg (by omega), if_neg (by omega), if_neg (by omega), if_neg (by omega), if_neg (by omega), if_neg (by omega), if_neg (by omega), if_neg (by omega), if_neg (by omega), if_neg (by omega), if_pos (by omega)] <;>
  first | rfl | exact inst_ext (by omega) rfl rfl rfl rfl
theorem s49 {a : Int} (h : a / 16 * 16 = 176) : shp a = (⟨54, false, (⟨0, 0, 0⟩ : M.Operand), (⟨0, 0, 0⟩ : M.Operand), 0, a % 16⟩ : M.Inst) := by
  rw [shp, if_neg (by omega), if_neg (by omega), if_neg (by omega), if_neg (by omega), if_neg (by omega), if_neg (by omega), if_neg (by omega), if_neg (by omega), if_neg (by omega), if_neg (by omega), if_neg (by omega), if_neg (by omega), if_neg (by omega), if_neg (by omega), if_neg (by omega), if_neg (by omega), if_neg (by omega), if_neg (by omega), if_neg (by omega), if_neg (by omega), if_neg (by omega), if_neg (by omega), if_neg (by omega), if_pos (by omega)] <;>
  first | rfl | exact inst_ext (by omega) rfl rfl rfl rfl
theorem s50 {a : Int} (h : a / 1 * 1 = 0) : shp a = (⟨50, false, (⟨0, 0, 0⟩ : M.Operand), (⟨0, 0, 0⟩ : M.Operand), 0, 0⟩ : M.Inst) := by
  rw [shp, if_neg (by omega), if_neg (by omega), if_neg (by omega), if_neg (by omega), if_neg (by omega), if_neg (by omega), if_neg (by omega), if_neg (by omega), if_neg (by omega), if_neg (by omega), if_neg (by omega), if_neg (by omega), if_neg (by omega), if_neg (by omega), if_neg (by omega), if_neg (by omega), if_neg (by omega), if_neg (by omega), if_neg (by omega), if_neg (by omega), if_neg (by omega), if_neg (by omega), if_neg (by omega), if_neg (by omega), if_pos (by omega)] <;>
  first | rfl | exact inst_ext (by omega) rfl rfl rfl rfl
theorem s51 {a : Int} (h : a / 1 * 1 = 1) : shp a = (⟨51, false, (⟨0, 0, 0⟩ : M.Operand), (⟨0, 0, 0⟩ : M.Operand), 0, 0⟩ : M.Inst) := by
  rw [shp, if_neg (by omega), if_neg (by omega), if_neg (by omega), if_neg (by omega), if_neg (by omega), if_neg (by omega), if_neg (by omega), if_neg (by omega), if_neg (by omega), if_neg (by omega), if_neg (by omega), if_neg (by omega), if_neg (by omega), if_neg (by omega), if_neg (by omega), if_neg (by omega), if_neg (by omega), if_neg (by omega), if_neg (by omega), if_neg (by omega), if_neg (by omega), if_neg (by omega), if_neg (by omega), if_neg (by omega), if_neg (by omega), if_pos (by omega)] <;>
  first | rfl | exact inst_ext (by omega) rfl rfl rfl rfl
theorem s52 {a : Int} (h : a / 1 * 1 = 2) : shp a = (⟨49, false, (⟨0, 0, 0⟩ : M.Operand), (⟨0, 0, 0⟩ : M.Operand), 0, 0⟩ : M.Inst) := by
  rw [shp, if_neg (by omega), if_neg (by omega), if_neg (by omega), if_neg (by omega), if_neg (by omega), if_neg (by omega), if_neg (by omega), if_neg (by omega), if_neg (by omega), if_neg (by omega), if_neg (by omega), if_neg (by omega), if_neg (by omega), if_neg (by omega), if_neg (by omega), if_neg (by omega), if_neg (by omega), if_neg (by omega), if_neg (by omega), if_neg (by omega), if_neg (by omega), if_neg (by omega), if_neg (by omega), if_neg (by omega), if_neg (by omega), if_neg (by omega), if_pos (by omega)] <;>
  first | rfl | exact inst_ext (by omega) rfl rfl rfl rfl
theorem s53 {a : Int} (h : a / 1 * 1 = 3) : shp a = (⟨47, false, (⟨0, 0, 0⟩ : M.Operand), (⟨0, 0, 0⟩ : M.Operand), 0, 0⟩ : M.Inst) := by
  rw [shp, if_neg (by omega), if_neg (by omega), if_neg (by omega), if_neg (by omega), if_neg (by omega), if_neg (by omega), if_neg (by omega), if_neg (by omega), if_neg (by omega), if_neg (by omega), if_neg (by omega), if_neg (by omega), if_neg (by omega), if_neg (by omega), if_neg (by omega), if_neg (by omega), if_neg (by omega), if_neg (by omega), if_neg (by omega), if_neg (by omega), if_neg (by omega), if_neg (by omega), if_neg (by omega), if_neg (by omega), if_neg (by omega), if_neg (by omega), if_neg (by omega), if_pos (by omega)] <;>
  first | rfl | exact inst_ext (by omega) rfl rfl rfl rfl
theorem s54 {a : Int} (h : a / 1 * 1 = 4) : shp a = (⟨48, false, (⟨0, 0, 0⟩ : M.Operand), (⟨0, 0, 0⟩ : M.Operand), 0, 0⟩ : M.Inst) := by
  rw [shp, if_neg (by omega), if_neg (by omega), if_neg (by omega), if_neg (by omega), if_neg (by omega), if_neg (by omega), if_neg (by omega), if_neg (by omega), if_neg (by omega), if_neg (by omega), if_neg (by omega), if_neg (by omega), if_neg (by omega), if_neg (by omega), if_neg (by omega), if_neg (by omega), if_neg (by omega), if_neg (by omega), if_neg (by omega), if_neg (by omega), if_neg (by omega), if_neg (by omega), if_neg (by omega), if_neg (by omega), if_neg (by omega), if_neg (by omega), if_neg (by omega), if_neg (by omega), if_pos (by omega)] <;>
  first | rfl | exact inst_ext (by omega) rfl rfl rfl rfl
theorem s55 {a : Int} (h : a / 1 * 1 = 5) : shp a = (⟨52, false, (⟨0, 0, 0⟩ : M.Operand), (⟨0, 0, 0⟩ : M.Operand), 0, 0⟩ : M.Inst) := by
  rw [shp, if_neg (by omega), if_neg (by omega), if_neg (by omega), if_neg (by omega), if_neg (by omega), if_neg (by omega), if_neg (by omega), if_neg (by omega), if_neg (by omega), if_neg (by omega), if_neg (by omega), if_neg (by omega), if_neg (by omega), if_neg (by omega), if_neg (by omega), if_neg (by omega), if_neg (by omega), if_neg (by omega), if_neg (by omega), if_neg (by omega), if_neg (by omega), if_neg (by omega), if_neg (by omega), if_neg (by omega), if_neg (by omega), if_neg (by omega), if_neg (by omega), if_neg (by omega), if_neg (by omega), if_pos (by omega)] <;>
  first | rfl | exact inst_ext (by omega) rfl rfl rfl rfl
end PL
end Go.Proofs.Ytnonimnhninafaa.Ab

/- A word's form and the reference's shape of it; printed by a program of the session. -/
namespace Go.Proofs.Ytnonimnhninafaa.Ab
open Go
set_option linter.unusedVariables false
set_option linter.unusedSimpArgs false
namespace PL
set_option maxRecDepth 100000

theorem hit0 {w a o s : Int} {y : Bool} (h0 : 0 ≤ w) (h1 : w < 65536) : hit ⟨a, 0, o, s, y⟩ w = w / 1 * 1 := by
  unfold hit
  rw [show ((2 : Int) ^ (Min.min (Int.toNat 0) (IntKind.bits IntKind.i64))) = 1 from rfl, Int.fdiv_eq_ediv_of_nonneg _ (by decide), wrap64 (by omega) (by omega)]
theorem hit3 {w a o s : Int} {y : Bool} (h0 : 0 ≤ w) (h1 : w < 65536) : hit ⟨a, 3, o, s, y⟩ w = w / 8 * 8 := by
  unfold hit
  rw [show ((2 : Int) ^ (Min.min (Int.toNat 3) (IntKind.bits IntKind.i64))) = 8 from rfl, Int.fdiv_eq_ediv_of_nonneg _ (by decide), wrap64 (by omega) (by omega)]
theorem hit4 {w a o s : Int} {y : Bool} (h0 : 0 ≤ w) (h1 : w < 65536) : hit ⟨a, 4, o, s, y⟩ w = w / 16 * 16 := by
  unfold hit
  rw [show ((2 : Int) ^ (Min.min (Int.toNat 4) (IntKind.bits IntKind.i64))) = 16 from rfl, Int.fdiv_eq_ediv_of_nonneg _ (by decide), wrap64 (by omega) (by omega)]
theorem hit6 {w a o s : Int} {y : Bool} (h0 : 0 ≤ w) (h1 : w < 65536) : hit ⟨a, 6, o, s, y⟩ w = w / 64 * 64 := by
  unfold hit
  rw [show ((2 : Int) ^ (Min.min (Int.toNat 6) (IntKind.bits IntKind.i64))) = 64 from rfl, Int.fdiv_eq_ediv_of_nonneg _ (by decide), wrap64 (by omega) (by omega)]
theorem hit8 {w a o s : Int} {y : Bool} (h0 : 0 ≤ w) (h1 : w < 65536) : hit ⟨a, 8, o, s, y⟩ w = w / 256 * 256 := by
  unfold hit
  rw [show ((2 : Int) ^ (Min.min (Int.toNat 8) (IntKind.bits IntKind.i64))) = 256 from rfl, Int.fdiv_eq_ediv_of_nonneg _ (by decide), wrap64 (by omega) (by omega)]
theorem hit9 {w a o s : Int} {y : Bool} (h0 : 0 ≤ w) (h1 : w < 65536) : hit ⟨a, 9, o, s, y⟩ w = w / 512 * 512 := by
  unfold hit
  rw [show ((2 : Int) ^ (Min.min (Int.toNat 9) (IntKind.bits IntKind.i64))) = 512 from rfl, Int.fdiv_eq_ediv_of_nonneg _ (by decide), wrap64 (by omega) (by omega)]
theorem hit12 {w a o s : Int} {y : Bool} (h0 : 0 ≤ w) (h1 : w < 65536) : hit ⟨a, 12, o, s, y⟩ w = w / 4096 * 4096 := by
  unfold hit
  rw [show ((2 : Int) ^ (Min.min (Int.toNat 12) (IntKind.bits IntKind.i64))) = 4096 from rfl, Int.fdiv_eq_ediv_of_nonneg _ (by decide), wrap64 (by omega) (by omega)]
theorem or2560 : bitOf BinOp.or IntKind.i64 2560 32768 = 35328 := by kernel_rfl
theorem or2624 : bitOf BinOp.or IntKind.i64 2624 32768 = 35392 := by kernel_rfl
theorem or2688 : bitOf BinOp.or IntKind.i64 2688 32768 = 35456 := by kernel_rfl
theorem or2752 : bitOf BinOp.or IntKind.i64 2752 32768 = 35520 := by kernel_rfl
theorem or2816 : bitOf BinOp.or IntKind.i64 2816 32768 = 35584 := by kernel_rfl
theorem or2880 : bitOf BinOp.or IntKind.i64 2880 32768 = 35648 := by kernel_rfl
theorem or2944 : bitOf BinOp.or IntKind.i64 2944 32768 = 35712 := by kernel_rfl
theorem or3008 : bitOf BinOp.or IntKind.i64 3008 32768 = 35776 := by kernel_rfl
theorem or3072 : bitOf BinOp.or IntKind.i64 3072 32768 = 35840 := by kernel_rfl
theorem or3136 : bitOf BinOp.or IntKind.i64 3136 32768 = 35904 := by kernel_rfl
theorem or3200 : bitOf BinOp.or IntKind.i64 3200 32768 = 35968 := by kernel_rfl
theorem or3264 : bitOf BinOp.or IntKind.i64 3264 32768 = 36032 := by kernel_rfl
theorem or4096 : bitOf BinOp.or IntKind.i64 4096 32768 = 36864 := by kernel_rfl
theorem or8192 : bitOf BinOp.or IntKind.i64 8192 32768 = 40960 := by kernel_rfl
theorem or12288 : bitOf BinOp.or IntKind.i64 12288 32768 = 45056 := by kernel_rfl
theorem or16384 : bitOf BinOp.or IntKind.i64 16384 32768 = 49152 := by kernel_rfl
theorem or20480 : bitOf BinOp.or IntKind.i64 20480 32768 = 53248 := by kernel_rfl
theorem i8 (w : Int) : IntKind.wrap IntKind.i64 (IntKind.wrap IntKind.i8 w) = sgn (w % 256) := by
  have h : IntKind.wrap IntKind.i8 w = sgn (w % 256) := by
    unfold sgn
    simp only [IntKind.wrap, IntKind.bits, IntKind.signed, Bool.true_and]
    split <;> split <;> simp_all <;> omega
  rw [h]
  refine wrap64 ?_ ?_ <;> (unfold sgn; split <;> omega)
def mk (f : M.Inst_form) (b : Bool) (w : Int) : M.Inst := ⟨(X.inst_form_fields f w).Op, b, (X.inst_form_fields f w).Src, (X.inst_form_fields f w).Dst, (X.inst_form_fields f w).Reg, (X.inst_form_fields f w).Num⟩
theorem F0 {f n o w : Int} {y : Bool} : X.inst_form_fields ⟨f, n, o, 0, y⟩ w = (⟨o, false, (⟨0, 0, 0⟩ : M.Operand), (⟨0, 0, 0⟩ : M.Operand), 0, 0⟩ : M.Inst) := by
  simp only [X.inst_form_fields, Int.reduceBEq, cond_true, cond_false, from_, fd6, mask3, mask4, mask6, mask8, i8]
theorem F1 {f n o w : Int} {y : Bool} : X.inst_form_fields ⟨f, n, o, 1, y⟩ w = (⟨o, false, frm (w / 64), frm w, 0, 0⟩ : M.Inst) := by
  simp only [X.inst_form_fields, Int.reduceBEq, cond_true, cond_false, from_, fd6, mask3, mask4, mask6, mask8, i8]
theorem F2 {f n o w : Int} {y : Bool} : X.inst_form_fields ⟨f, n, o, 2, y⟩ w = (⟨o, false, frm w, (⟨0, 0, 0⟩ : M.Operand), 0, 0⟩ : M.Inst) := by
  simp only [X.inst_form_fields, Int.reduceBEq, cond_true, cond_false, from_, fd6, mask3, mask4, mask6, mask8, i8]
theorem F3 {f n o w : Int} {y : Bool} : X.inst_form_fields ⟨f, n, o, 3, y⟩ w = (⟨o, false, (⟨0, 0, 0⟩ : M.Operand), frm w, 0, 0⟩ : M.Inst) := by
  simp only [X.inst_form_fields, Int.reduceBEq, cond_true, cond_false, from_, fd6, mask3, mask4, mask6, mask8, i8]
theorem F4 {f n o w : Int} {y : Bool} : X.inst_form_fields ⟨f, n, o, 4, y⟩ w = (⟨o, false, (⟨0, 0, 0⟩ : M.Operand), frm w, 0, 0⟩ : M.Inst) := by
  simp only [X.inst_form_fields, Int.reduceBEq, cond_true, cond_false, from_, fd6, mask3, mask4, mask6, mask8, i8]
theorem F5 {f n o w : Int} {y : Bool} : X.inst_form_fields ⟨f, n, o, 5, y⟩ w = (⟨o, false, frm w, (⟨0, 0, 0⟩ : M.Operand), w / 64 % 8, 0⟩ : M.Inst) := by
  simp only [X.inst_form_fields, Int.reduceBEq, cond_true, cond_false, from_, fd6, mask3, mask4, mask6, mask8, i8]
theorem F6 {f n o w : Int} {y : Bool} : X.inst_form_fields ⟨f, n, o, 6, y⟩ w = (⟨o, false, (⟨0, 0, 0⟩ : M.Operand), frm w, w / 64 % 8, 0⟩ : M.Inst) := by
  simp only [X.inst_form_fields, Int.reduceBEq, cond_true, cond_false, from_, fd6, mask3, mask4, mask6, mask8, i8]
theorem F7 {f n o w : Int} {y : Bool} : X.inst_form_fields ⟨f, n, o, 7, y⟩ w = (⟨o, false, (⟨0, 0, 0⟩ : M.Operand), frm w, w / 64 % 8, 0⟩ : M.Inst) := by
  simp only [X.inst_form_fields, Int.reduceBEq, cond_true, cond_false, from_, fd6, mask3, mask4, mask6, mask8, i8]
theorem F8 {f n o w : Int} {y : Bool} : X.inst_form_fields ⟨f, n, o, 8, y⟩ w = (⟨o, false, (⟨0, 0, 0⟩ : M.Operand), (⟨0, 0, 0⟩ : M.Operand), w % 8, 0⟩ : M.Inst) := by
  simp only [X.inst_form_fields, Int.reduceBEq, cond_true, cond_false, from_, fd6, mask3, mask4, mask6, mask8, i8]
theorem F9 {f n o w : Int} {y : Bool} : X.inst_form_fields ⟨f, n, o, 9, y⟩ w = (⟨o, false, (⟨0, 0, 0⟩ : M.Operand), (⟨0, 0, 0⟩ : M.Operand), 0, sgn (w % 256)⟩ : M.Inst) := by
  simp only [X.inst_form_fields, Int.reduceBEq, cond_true, cond_false, from_, fd6, mask3, mask4, mask6, mask8, i8]
theorem F10 {f n o w : Int} {y : Bool} : X.inst_form_fields ⟨f, n, o, 10, y⟩ w = (⟨o, false, (⟨0, 0, 0⟩ : M.Operand), (⟨0, 0, 0⟩ : M.Operand), w / 64 % 8, w % 64⟩ : M.Inst) := by
  simp only [X.inst_form_fields, Int.reduceBEq, cond_true, cond_false, from_, fd6, mask3, mask4, mask6, mask8, i8]
theorem F11 {f n o w : Int} {y : Bool} : X.inst_form_fields ⟨f, n, o, 11, y⟩ w = (⟨o, false, (⟨0, 0, 0⟩ : M.Operand), (⟨0, 0, 0⟩ : M.Operand), 0, w % 256⟩ : M.Inst) := by
  simp only [X.inst_form_fields, Int.reduceBEq, cond_true, cond_false, from_, fd6, mask3, mask4, mask6, mask8, i8]
theorem F12 {f n o w : Int} {y : Bool} : X.inst_form_fields ⟨f, n, o, 12, y⟩ w = (⟨o, false, (⟨0, 0, 0⟩ : M.Operand), (⟨0, 0, 0⟩ : M.Operand), 0, w % 16⟩ : M.Inst) := by
  simp only [X.inst_form_fields, Int.reduceBEq, cond_true, cond_false, from_, fd6, mask3, mask4, mask6, mask8, i8]
def Q (w : Int) (f : M.Inst_form) : Prop := (hit f w = f.first → shp w = mk f false w) ∧ (f.bytes = true → hit f w = bitOf BinOp.or IntKind.i64 f.first 32768 → shp w = mk f true w)
section
variable {w : Int} (h0 : 0 ≤ w) (h1 : w < 65536)
include h0 h1
theorem q0 : Q w ⟨4096, 12, 1, 1, true⟩ :=
  ⟨fun h => by
    have h' := (hit12 h0 h1).symm.trans h
    unfold mk; rw [F1]; exact s0 h', fun _ h => by
    have h' := (hit12 h0 h1).symm.trans (h.trans or4096)
    unfold mk; rw [F1]; exact s0w h'⟩
theorem q1 : Q w ⟨8192, 12, 2, 1, true⟩ :=
  ⟨fun h => by
    have h' := (hit12 h0 h1).symm.trans h
    unfold mk; rw [F1]; exact s1 h', fun _ h => by
    have h' := (hit12 h0 h1).symm.trans (h.trans or8192)
    unfold mk; rw [F1]; exact s1w h'⟩
theorem q2 : Q w ⟨12288, 12, 3, 1, true⟩ :=
  ⟨fun h => by
    have h' := (hit12 h0 h1).symm.trans h
    unfold mk; rw [F1]; exact s2 h', fun _ h => by
    have h' := (hit12 h0 h1).symm.trans (h.trans or12288)
    unfold mk; rw [F1]; exact s2w h'⟩
theorem q3 : Q w ⟨16384, 12, 4, 1, true⟩ :=
  ⟨fun h => by
    have h' := (hit12 h0 h1).symm.trans h
    unfold mk; rw [F1]; exact s3 h', fun _ h => by
    have h' := (hit12 h0 h1).symm.trans (h.trans or16384)
    unfold mk; rw [F1]; exact s3w h'⟩
theorem q4 : Q w ⟨20480, 12, 5, 1, true⟩ :=
  ⟨fun h => by
    have h' := (hit12 h0 h1).symm.trans h
    unfold mk; rw [F1]; exact s4 h', fun _ h => by
    have h' := (hit12 h0 h1).symm.trans (h.trans or20480)
    unfold mk; rw [F1]; exact s4w h'⟩
theorem q5 : Q w ⟨24576, 12, 6, 1, false⟩ :=
  ⟨fun h => by
    have h' := (hit12 h0 h1).symm.trans h
    unfold mk; rw [F1]; exact s5 h', fun hb => by cases hb⟩
theorem q6 : Q w ⟨57344, 12, 7, 1, false⟩ :=
  ⟨fun h => by
    have h' := (hit12 h0 h1).symm.trans h
    unfold mk; rw [F1]; exact s6 h', fun hb => by cases hb⟩
theorem q7 : Q w ⟨28672, 9, 8, 5, false⟩ :=
  ⟨fun h => by
    have h' := (hit9 h0 h1).symm.trans h
    unfold mk; rw [F5]; exact s7 h', fun hb => by cases hb⟩
theorem q8 : Q w ⟨29184, 9, 9, 5, false⟩ :=
  ⟨fun h => by
    have h' := (hit9 h0 h1).symm.trans h
    unfold mk; rw [F5]; exact s8 h', fun hb => by cases hb⟩
theorem q9 : Q w ⟨29696, 9, 10, 5, false⟩ :=
  ⟨fun h => by
    have h' := (hit9 h0 h1).symm.trans h
    unfold mk; rw [F5]; exact s9 h', fun hb => by cases hb⟩
theorem q10 : Q w ⟨30720, 9, 11, 6, false⟩ :=
  ⟨fun h => by
    have h' := (hit9 h0 h1).symm.trans h
    unfold mk; rw [F6]; exact s10 h', fun hb => by cases hb⟩
theorem q11 : Q w ⟨2560, 6, 12, 3, true⟩ :=
  ⟨fun h => by
    have h' := (hit6 h0 h1).symm.trans h
    unfold mk; rw [F3]; exact s11 h', fun _ h => by
    have h' := (hit6 h0 h1).symm.trans (h.trans or2560)
    unfold mk; rw [F3]; exact s11w h'⟩
theorem q12 : Q w ⟨2624, 6, 13, 3, true⟩ :=
  ⟨fun h => by
    have h' := (hit6 h0 h1).symm.trans h
    unfold mk; rw [F3]; exact s12 h', fun _ h => by
    have h' := (hit6 h0 h1).symm.trans (h.trans or2624)
    unfold mk; rw [F3]; exact s12w h'⟩
theorem q13 : Q w ⟨2688, 6, 14, 3, true⟩ :=
  ⟨fun h => by
    have h' := (hit6 h0 h1).symm.trans h
    unfold mk; rw [F3]; exact s13 h', fun _ h => by
    have h' := (hit6 h0 h1).symm.trans (h.trans or2688)
    unfold mk; rw [F3]; exact s13w h'⟩
theorem q14 : Q w ⟨2752, 6, 15, 3, true⟩ :=
  ⟨fun h => by
    have h' := (hit6 h0 h1).symm.trans h
    unfold mk; rw [F3]; exact s14 h', fun _ h => by
    have h' := (hit6 h0 h1).symm.trans (h.trans or2752)
    unfold mk; rw [F3]; exact s14w h'⟩
theorem q15 : Q w ⟨2816, 6, 16, 3, true⟩ :=
  ⟨fun h => by
    have h' := (hit6 h0 h1).symm.trans h
    unfold mk; rw [F3]; exact s15 h', fun _ h => by
    have h' := (hit6 h0 h1).symm.trans (h.trans or2816)
    unfold mk; rw [F3]; exact s15w h'⟩
theorem q16 : Q w ⟨2880, 6, 17, 3, true⟩ :=
  ⟨fun h => by
    have h' := (hit6 h0 h1).symm.trans h
    unfold mk; rw [F3]; exact s16 h', fun _ h => by
    have h' := (hit6 h0 h1).symm.trans (h.trans or2880)
    unfold mk; rw [F3]; exact s16w h'⟩
theorem q17 : Q w ⟨2944, 6, 18, 3, true⟩ :=
  ⟨fun h => by
    have h' := (hit6 h0 h1).symm.trans h
    unfold mk; rw [F3]; exact s17 h', fun _ h => by
    have h' := (hit6 h0 h1).symm.trans (h.trans or2944)
    unfold mk; rw [F3]; exact s17w h'⟩
theorem q18 : Q w ⟨3008, 6, 19, 3, true⟩ :=
  ⟨fun h => by
    have h' := (hit6 h0 h1).symm.trans h
    unfold mk; rw [F3]; exact s18 h', fun _ h => by
    have h' := (hit6 h0 h1).symm.trans (h.trans or3008)
    unfold mk; rw [F3]; exact s18w h'⟩
theorem q19 : Q w ⟨3072, 6, 20, 3, true⟩ :=
  ⟨fun h => by
    have h' := (hit6 h0 h1).symm.trans h
    unfold mk; rw [F3]; exact s19 h', fun _ h => by
    have h' := (hit6 h0 h1).symm.trans (h.trans or3072)
    unfold mk; rw [F3]; exact s19w h'⟩
theorem q20 : Q w ⟨3136, 6, 21, 3, true⟩ :=
  ⟨fun h => by
    have h' := (hit6 h0 h1).symm.trans h
    unfold mk; rw [F3]; exact s20 h', fun _ h => by
    have h' := (hit6 h0 h1).symm.trans (h.trans or3136)
    unfold mk; rw [F3]; exact s20w h'⟩
theorem q21 : Q w ⟨3200, 6, 22, 3, true⟩ :=
  ⟨fun h => by
    have h' := (hit6 h0 h1).symm.trans h
    unfold mk; rw [F3]; exact s21 h', fun _ h => by
    have h' := (hit6 h0 h1).symm.trans (h.trans or3200)
    unfold mk; rw [F3]; exact s21w h'⟩
theorem q22 : Q w ⟨3264, 6, 23, 3, true⟩ :=
  ⟨fun h => by
    have h' := (hit6 h0 h1).symm.trans h
    unfold mk; rw [F3]; exact s22 h', fun _ h => by
    have h' := (hit6 h0 h1).symm.trans (h.trans or3264)
    unfold mk; rw [F3]; exact s22w h'⟩
theorem q23 : Q w ⟨192, 6, 24, 3, false⟩ :=
  ⟨fun h => by
    have h' := (hit6 h0 h1).symm.trans h
    unfold mk; rw [F3]; exact s23 h', fun hb => by cases hb⟩
theorem q24 : Q w ⟨3520, 6, 25, 3, false⟩ :=
  ⟨fun h => by
    have h' := (hit6 h0 h1).symm.trans h
    unfold mk; rw [F3]; exact s24 h', fun hb => by cases hb⟩
theorem q25 : Q w ⟨3392, 6, 55, 2, false⟩ :=
  ⟨fun h => by
    have h' := (hit6 h0 h1).symm.trans h
    unfold mk; rw [F2]; exact s25 h', fun hb => by cases hb⟩
theorem q26 : Q w ⟨3456, 6, 56, 3, false⟩ :=
  ⟨fun h => by
    have h' := (hit6 h0 h1).symm.trans h
    unfold mk; rw [F3]; exact s26 h', fun hb => by cases hb⟩
theorem q27 : Q w ⟨64, 6, 41, 4, false⟩ :=
  ⟨fun h => by
    have h' := (hit6 h0 h1).symm.trans h
    unfold mk; rw [F4]; exact s27 h', fun hb => by cases hb⟩
theorem q28 : Q w ⟨2048, 9, 42, 7, false⟩ :=
  ⟨fun h => by
    have h' := (hit9 h0 h1).symm.trans h
    unfold mk; rw [F7]; exact s28 h', fun hb => by cases hb⟩
theorem q29 : Q w ⟨128, 3, 43, 8, false⟩ :=
  ⟨fun h => by
    have h' := (hit3 h0 h1).symm.trans h
    unfold mk; rw [F8]; exact s29 h', fun hb => by cases hb⟩
theorem q30 : Q w ⟨32256, 9, 44, 10, false⟩ :=
  ⟨fun h => by
    have h' := (hit9 h0 h1).symm.trans h
    unfold mk; rw [F10]; exact s30 h', fun hb => by cases hb⟩
theorem q31 : Q w ⟨256, 8, 26, 9, false⟩ :=
  ⟨fun h => by
    have h' := (hit8 h0 h1).symm.trans h
    unfold mk; rw [F9]; exact s31 h', fun hb => by cases hb⟩
theorem q32 : Q w ⟨512, 8, 27, 9, false⟩ :=
  ⟨fun h => by
    have h' := (hit8 h0 h1).symm.trans h
    unfold mk; rw [F9]; exact s32 h', fun hb => by cases hb⟩
theorem q33 : Q w ⟨768, 8, 28, 9, false⟩ :=
  ⟨fun h => by
    have h' := (hit8 h0 h1).symm.trans h
    unfold mk; rw [F9]; exact s33 h', fun hb => by cases hb⟩
theorem q34 : Q w ⟨1024, 8, 29, 9, false⟩ :=
  ⟨fun h => by
    have h' := (hit8 h0 h1).symm.trans h
    unfold mk; rw [F9]; exact s34 h', fun hb => by cases hb⟩
theorem q35 : Q w ⟨1280, 8, 30, 9, false⟩ :=
  ⟨fun h => by
    have h' := (hit8 h0 h1).symm.trans h
    unfold mk; rw [F9]; exact s35 h', fun hb => by cases hb⟩
theorem q36 : Q w ⟨1536, 8, 31, 9, false⟩ :=
  ⟨fun h => by
    have h' := (hit8 h0 h1).symm.trans h
    unfold mk; rw [F9]; exact s36 h', fun hb => by cases hb⟩
theorem q37 : Q w ⟨1792, 8, 32, 9, false⟩ :=
  ⟨fun h => by
    have h' := (hit8 h0 h1).symm.trans h
    unfold mk; rw [F9]; exact s37 h', fun hb => by cases hb⟩
theorem q38 : Q w ⟨32768, 8, 33, 9, false⟩ :=
  ⟨fun h => by
    have h' := (hit8 h0 h1).symm.trans h
    unfold mk; rw [F9]; exact s38 h', fun hb => by cases hb⟩
theorem q39 : Q w ⟨33024, 8, 34, 9, false⟩ :=
  ⟨fun h => by
    have h' := (hit8 h0 h1).symm.trans h
    unfold mk; rw [F9]; exact s39 h', fun hb => by cases hb⟩
theorem q40 : Q w ⟨33280, 8, 35, 9, false⟩ :=
  ⟨fun h => by
    have h' := (hit8 h0 h1).symm.trans h
    unfold mk; rw [F9]; exact s40 h', fun hb => by cases hb⟩
theorem q41 : Q w ⟨33536, 8, 36, 9, false⟩ :=
  ⟨fun h => by
    have h' := (hit8 h0 h1).symm.trans h
    unfold mk; rw [F9]; exact s41 h', fun hb => by cases hb⟩
theorem q42 : Q w ⟨33792, 8, 37, 9, false⟩ :=
  ⟨fun h => by
    have h' := (hit8 h0 h1).symm.trans h
    unfold mk; rw [F9]; exact s42 h', fun hb => by cases hb⟩
theorem q43 : Q w ⟨34048, 8, 38, 9, false⟩ :=
  ⟨fun h => by
    have h' := (hit8 h0 h1).symm.trans h
    unfold mk; rw [F9]; exact s43 h', fun hb => by cases hb⟩
theorem q44 : Q w ⟨34304, 8, 39, 9, false⟩ :=
  ⟨fun h => by
    have h' := (hit8 h0 h1).symm.trans h
    unfold mk; rw [F9]; exact s44 h', fun hb => by cases hb⟩
theorem q45 : Q w ⟨34560, 8, 40, 9, false⟩ :=
  ⟨fun h => by
    have h' := (hit8 h0 h1).symm.trans h
    unfold mk; rw [F9]; exact s45 h', fun hb => by cases hb⟩
theorem q46 : Q w ⟨34816, 8, 45, 11, false⟩ :=
  ⟨fun h => by
    have h' := (hit8 h0 h1).symm.trans h
    unfold mk; rw [F11]; exact s46 h', fun hb => by cases hb⟩
theorem q47 : Q w ⟨35072, 8, 46, 11, false⟩ :=
  ⟨fun h => by
    have h' := (hit8 h0 h1).symm.trans h
    unfold mk; rw [F11]; exact s47 h', fun hb => by cases hb⟩
theorem q48 : Q w ⟨160, 4, 53, 12, false⟩ :=
  ⟨fun h => by
    have h' := (hit4 h0 h1).symm.trans h
    unfold mk; rw [F12]; exact s48 h', fun hb => by cases hb⟩
theorem q49 : Q w ⟨176, 4, 54, 12, false⟩ :=
  ⟨fun h => by
    have h' := (hit4 h0 h1).symm.trans h
    unfold mk; rw [F12]; exact s49 h', fun hb => by cases hb⟩
theorem q50 : Q w ⟨0, 0, 50, 0, false⟩ :=
  ⟨fun h => by
    have h' := (hit0 h0 h1).symm.trans h
    unfold mk; rw [F0]; exact s50 h', fun hb => by cases hb⟩
theorem q51 : Q w ⟨1, 0, 51, 0, false⟩ :=
  ⟨fun h => by
    have h' := (hit0 h0 h1).symm.trans h
    unfold mk; rw [F0]; exact s51 h', fun hb => by cases hb⟩
theorem q52 : Q w ⟨2, 0, 49, 0, false⟩ :=
  ⟨fun h => by
    have h' := (hit0 h0 h1).symm.trans h
    unfold mk; rw [F0]; exact s52 h', fun hb => by cases hb⟩
theorem q53 : Q w ⟨3, 0, 47, 0, false⟩ :=
  ⟨fun h => by
    have h' := (hit0 h0 h1).symm.trans h
    unfold mk; rw [F0]; exact s53 h', fun hb => by cases hb⟩
theorem q54 : Q w ⟨4, 0, 48, 0, false⟩ :=
  ⟨fun h => by
    have h' := (hit0 h0 h1).symm.trans h
    unfold mk; rw [F0]; exact s54 h', fun hb => by cases hb⟩
theorem q55 : Q w ⟨5, 0, 52, 0, false⟩ :=
  ⟨fun h => by
    have h' := (hit0 h0 h1).symm.trans h
    unfold mk; rw [F0]; exact s55 h', fun hb => by cases hb⟩
theorem q_all : ∀ f ∈ forms, Q w f := by
  unfold forms
  exact List.forall_mem_cons.2 ⟨q0 h0 h1, List.forall_mem_cons.2 ⟨q1 h0 h1, List.forall_mem_cons.2 ⟨q2 h0 h1, List.forall_mem_cons.2 ⟨q3 h0 h1, List.forall_mem_cons.2 ⟨q4 h0 h1, List.forall_mem_cons.2 ⟨q5 h0 h1, List.forall_mem_cons.2 ⟨q6 h0 h1, List.forall_mem_cons.2 ⟨q7 h0 h1, List.forall_mem_cons.2 ⟨q8 h0 h1, List.forall_mem_cons.2 ⟨q9 h0 h1, List.forall_mem_cons.2 ⟨q10 h0 h1, List.forall_mem_cons.2 ⟨q11 h0 h1, List.forall_mem_cons.2 ⟨q12 h0 h1, List.forall_mem_cons.2 ⟨q13 h0 h1, List.forall_mem_cons.2 ⟨q14 h0 h1, List.forall_mem_cons.2 ⟨q15 h0 h1, List.forall_mem_cons.2 ⟨q16 h0 h1, List.forall_mem_cons.2 ⟨q17 h0 h1, List.forall_mem_cons.2 ⟨q18 h0 h1, List.forall_mem_cons.2 ⟨q19 h0 h1, List.forall_mem_cons.2 ⟨q20 h0 h1, List.forall_mem_cons.2 ⟨q21 h0 h1, List.forall_mem_cons.2 ⟨q22 h0 h1, List.forall_mem_cons.2 ⟨q23 h0 h1, List.forall_mem_cons.2 ⟨q24 h0 h1, List.forall_mem_cons.2 ⟨q25 h0 h1, List.forall_mem_cons.2 ⟨q26 h0 h1, List.forall_mem_cons.2 ⟨q27 h0 h1, List.forall_mem_cons.2 ⟨q28 h0 h1, List.forall_mem_cons.2 ⟨q29 h0 h1, List.forall_mem_cons.2 ⟨q30 h0 h1, List.forall_mem_cons.2 ⟨q31 h0 h1, List.forall_mem_cons.2 ⟨q32 h0 h1, List.forall_mem_cons.2 ⟨q33 h0 h1, List.forall_mem_cons.2 ⟨q34 h0 h1, List.forall_mem_cons.2 ⟨q35 h0 h1, List.forall_mem_cons.2 ⟨q36 h0 h1, List.forall_mem_cons.2 ⟨q37 h0 h1, List.forall_mem_cons.2 ⟨q38 h0 h1, List.forall_mem_cons.2 ⟨q39 h0 h1, List.forall_mem_cons.2 ⟨q40 h0 h1, List.forall_mem_cons.2 ⟨q41 h0 h1, List.forall_mem_cons.2 ⟨q42 h0 h1, List.forall_mem_cons.2 ⟨q43 h0 h1, List.forall_mem_cons.2 ⟨q44 h0 h1, List.forall_mem_cons.2 ⟨q45 h0 h1, List.forall_mem_cons.2 ⟨q46 h0 h1, List.forall_mem_cons.2 ⟨q47 h0 h1, List.forall_mem_cons.2 ⟨q48 h0 h1, List.forall_mem_cons.2 ⟨q49 h0 h1, List.forall_mem_cons.2 ⟨q50 h0 h1, List.forall_mem_cons.2 ⟨q51 h0 h1, List.forall_mem_cons.2 ⟨q52 h0 h1, List.forall_mem_cons.2 ⟨q53 h0 h1, List.forall_mem_cons.2 ⟨q54 h0 h1, List.forall_mem_cons.2 ⟨q55 h0 h1, fun _ h => absurd h List.not_mem_nil⟩⟩⟩⟩⟩⟩⟩⟩⟩⟩⟩⟩⟩⟩⟩⟩⟩⟩⟩⟩⟩⟩⟩⟩⟩⟩⟩⟩⟩⟩⟩⟩⟩⟩⟩⟩⟩⟩⟩⟩⟩⟩⟩⟩⟩⟩⟩⟩⟩⟩⟩⟩⟩⟩⟩⟩
theorem shape_hit {f : M.Inst_form} {b : Bool} (h : search w forms = some (f, b)) : X.R06_shape w = mk f b w := by
  rw [shape_eq h0 h1]
  obtain ⟨hm, hc⟩ := search_some h
  rcases hc with ⟨rfl, hc⟩ | ⟨rfl, hb, hc⟩
  · exact (q_all h0 h1 f hm).1 hc
  · exact (q_all h0 h1 f hm).2 hb hc
end
theorem c0 {a : Int} (n0 : ¬ a / 4096 * 4096 = 4096) (n1 : ¬ a / 4096 * 4096 = 8192) (n2 : ¬ a / 4096 * 4096 = 12288) (n3 : ¬ a / 4096 * 4096 = 16384) (n4 : ¬ a / 4096 * 4096 = 20480) : ¬ ((a / 4096) ≥ 1 ∧ (a / 4096) ≤ 5) := by omega
theorem c1 {a : Int} (n0w : ¬ a / 4096 * 4096 = 36864) (n1w : ¬ a / 4096 * 4096 = 40960) (n2w : ¬ a / 4096 * 4096 = 45056) (n3w : ¬ a / 4096 * 4096 = 49152) (n4w : ¬ a / 4096 * 4096 = 53248) : ¬ ((a / 4096) ≥ 9 ∧ (a / 4096) ≤ 13) := by omega
theorem c2 {a : Int} (n5 : ¬ a / 4096 * 4096 = 24576) : ¬ ((a / 4096) = 6) := by omega
theorem c3 {a : Int} (n6 : ¬ a / 4096 * 4096 = 57344) : ¬ ((a / 4096) = 14) := by omega
theorem c4 {a : Int} (n7 : ¬ a / 512 * 512 = 28672) (n8 : ¬ a / 512 * 512 = 29184) (n9 : ¬ a / 512 * 512 = 29696) : ¬ ((a / 512) ≥ 56 ∧ (a / 512) ≤ 58) := by omega
theorem c5 {a : Int} (n10 : ¬ a / 512 * 512 = 30720) : ¬ ((a / 512) = 60) := by omega
theorem c6 {a : Int} (n30 : ¬ a / 512 * 512 = 32256) : ¬ ((a / 512) = 63) := by omega
theorem c7 {a : Int} (n11 : ¬ a / 64 * 64 = 2560) (n12 : ¬ a / 64 * 64 = 2624) (n13 : ¬ a / 64 * 64 = 2688) (n14 : ¬ a / 64 * 64 = 2752) (n15 : ¬ a / 64 * 64 = 2816) (n16 : ¬ a / 64 * 64 = 2880) (n17 : ¬ a / 64 * 64 = 2944) (n18 : ¬ a / 64 * 64 = 3008) : ¬ ((a / 64) ≥ 40 ∧ (a / 64) ≤ 47) := by omega
theorem c8 {a : Int} (n11w : ¬ a / 64 * 64 = 35328) (n12w : ¬ a / 64 * 64 = 35392) (n13w : ¬ a / 64 * 64 = 35456) (n14w : ¬ a / 64 * 64 = 35520) (n15w : ¬ a / 64 * 64 = 35584) (n16w : ¬ a / 64 * 64 = 35648) (n17w : ¬ a / 64 * 64 = 35712) (n18w : ¬ a / 64 * 64 = 35776) : ¬ ((a / 64) ≥ 552 ∧ (a / 64) ≤ 559) := by omega
theorem c9 {a : Int} (n19 : ¬ a / 64 * 64 = 3072) (n20 : ¬ a / 64 * 64 = 3136) (n21 : ¬ a / 64 * 64 = 3200) (n22 : ¬ a / 64 * 64 = 3264) : ¬ ((a / 64) ≥ 48 ∧ (a / 64) ≤ 51) := by omega
theorem c10 {a : Int} (n19w : ¬ a / 64 * 64 = 35840) (n20w : ¬ a / 64 * 64 = 35904) (n21w : ¬ a / 64 * 64 = 35968) (n22w : ¬ a / 64 * 64 = 36032) : ¬ ((a / 64) ≥ 560 ∧ (a / 64) ≤ 563) := by omega
theorem c11 {a : Int} (n23 : ¬ a / 64 * 64 = 192) : ¬ ((a / 64) = 3) := by omega
theorem c12 {a : Int} (n24 : ¬ a / 64 * 64 = 3520) : ¬ ((a / 64) = 55) := by omega
theorem c13 {a : Int} (n25 : ¬ a / 64 * 64 = 3392) : ¬ ((a / 64) = 53) := by omega
theorem c14 {a : Int} (n26 : ¬ a / 64 * 64 = 3456) : ¬ ((a / 64) = 54) := by omega
theorem c15 {a : Int} (n27 : ¬ a / 64 * 64 = 64) : ¬ ((a / 64) = 1) := by omega
theorem c16 {a : Int} (n28 : ¬ a / 512 * 512 = 2048) : ¬ ((a / 512) = 4) := by omega
theorem c17 {a : Int} (n29 : ¬ a / 8 * 8 = 128) : ¬ ((a / 8) = 16) := by omega
theorem c18 {a : Int} (n31 : ¬ a / 256 * 256 = 256) (n32 : ¬ a / 256 * 256 = 512) (n33 : ¬ a / 256 * 256 = 768) (n34 : ¬ a / 256 * 256 = 1024) (n35 : ¬ a / 256 * 256 = 1280) (n36 : ¬ a / 256 * 256 = 1536) (n37 : ¬ a / 256 * 256 = 1792) : ¬ ((a / 256) ≥ 1 ∧ (a / 256) ≤ 7) := by omega
theorem c19 {a : Int} (n38 : ¬ a / 256 * 256 = 32768) (n39 : ¬ a / 256 * 256 = 33024) (n40 : ¬ a / 256 * 256 = 33280) (n41 : ¬ a / 256 * 256 = 33536) (n42 : ¬ a / 256 * 256 = 33792) (n43 : ¬ a / 256 * 256 = 34048) (n44 : ¬ a / 256 * 256 = 34304) (n45 : ¬ a / 256 * 256 = 34560) : ¬ ((a / 256) ≥ 128 ∧ (a / 256) ≤ 135) := by omega
theorem c20 {a : Int} (n46 : ¬ a / 256 * 256 = 34816) : ¬ ((a / 256) = 136) := by omega
theorem c21 {a : Int} (n47 : ¬ a / 256 * 256 = 35072) : ¬ ((a / 256) = 137) := by omega
theorem c22 {a : Int} (n48 : ¬ a / 16 * 16 = 160) : ¬ ((a / 16) = 10) := by omega
theorem c23 {a : Int} (n49 : ¬ a / 16 * 16 = 176) : ¬ ((a / 16) = 11) := by omega
theorem c24 {a : Int} (n50 : ¬ a / 1 * 1 = 0) : ¬ (a = 0) := by omega
theorem c25 {a : Int} (n51 : ¬ a / 1 * 1 = 1) : ¬ (a = 1) := by omega
theorem c26 {a : Int} (n52 : ¬ a / 1 * 1 = 2) : ¬ (a = 2) := by omega
theorem c27 {a : Int} (n53 : ¬ a / 1 * 1 = 3) : ¬ (a = 3) := by omega
theorem c28 {a : Int} (n54 : ¬ a / 1 * 1 = 4) : ¬ (a = 4) := by omega
theorem c29 {a : Int} (n55 : ¬ a / 1 * 1 = 5) : ¬ (a = 5) := by omega
theorem shape_none {w : Int} (h0 : 0 ≤ w) (h1 : w < 65536) (h : search w forms = none) : X.R06_shape w = ⟨0, false, ⟨0, 0, 0⟩, ⟨0, 0, 0⟩, 0, 0⟩ := by
  rw [shape_eq h0 h1]
  have hn := search_none h
  unfold forms at hn
  obtain ⟨m0, hn⟩ := List.forall_mem_cons.1 hn
  have n0 : ¬ w / 4096 * 4096 = 4096 := fun e => m0.1 ((hit12 h0 h1).trans e)
  have n0w : ¬ w / 4096 * 4096 = 36864 := fun e => m0.2 rfl ((hit12 h0 h1).trans (e.trans or4096.symm))
  obtain ⟨m1, hn⟩ := List.forall_mem_cons.1 hn
  have n1 : ¬ w / 4096 * 4096 = 8192 := fun e => m1.1 ((hit12 h0 h1).trans e)
  have n1w : ¬ w / 4096 * 4096 = 40960 := fun e => m1.2 rfl ((hit12 h0 h1).trans (e.trans or8192.symm))
  obtain ⟨m2, hn⟩ := List.forall_mem_cons.1 hn
  have n2 : ¬ w / 4096 * 4096 = 12288 := fun e => m2.1 ((hit12 h0 h1).trans e)
  have n2w : ¬ w / 4096 * 4096 = 45056 := fun e => m2.2 rfl ((hit12 h0 h1).trans (e.trans or12288.symm))
  obtain ⟨m3, hn⟩ := List.forall_mem_cons.1 hn
  have n3 : ¬ w / 4096 * 4096 = 16384 := fun e => m3.1 ((hit12 h0 h1).trans e)
  have n3w : ¬ w / 4096 * 4096 = 49152 := fun e => m3.2 rfl ((hit12 h0 h1).trans (e.trans or16384.symm))
  obtain ⟨m4, hn⟩ := List.forall_mem_cons.1 hn
  have n4 : ¬ w / 4096 * 4096 = 20480 := fun e => m4.1 ((hit12 h0 h1).trans e)
  have n4w : ¬ w / 4096 * 4096 = 53248 := fun e => m4.2 rfl ((hit12 h0 h1).trans (e.trans or20480.symm))
  obtain ⟨m5, hn⟩ := List.forall_mem_cons.1 hn
  have n5 : ¬ w / 4096 * 4096 = 24576 := fun e => m5.1 ((hit12 h0 h1).trans e)
  obtain ⟨m6, hn⟩ := List.forall_mem_cons.1 hn
  have n6 : ¬ w / 4096 * 4096 = 57344 := fun e => m6.1 ((hit12 h0 h1).trans e)
  obtain ⟨m7, hn⟩ := List.forall_mem_cons.1 hn
  have n7 : ¬ w / 512 * 512 = 28672 := fun e => m7.1 ((hit9 h0 h1).trans e)
  obtain ⟨m8, hn⟩ := List.forall_mem_cons.1 hn
  have n8 : ¬ w / 512 * 512 = 29184 := fun e => m8.1 ((hit9 h0 h1).trans e)
  obtain ⟨m9, hn⟩ := List.forall_mem_cons.1 hn
  have n9 : ¬ w / 512 * 512 = 29696 := fun e => m9.1 ((hit9 h0 h1).trans e)
  obtain ⟨m10, hn⟩ := List.forall_mem_cons.1 hn
  have n10 : ¬ w / 512 * 512 = 30720 := fun e => m10.1 ((hit9 h0 h1).trans e)
  obtain ⟨m11, hn⟩ := List.forall_mem_cons.1 hn
  have n11 : ¬ w / 64 * 64 = 2560 := fun e => m11.1 ((hit6 h0 h1).trans e)
  have n11w : ¬ w / 64 * 64 = 35328 := fun e => m11.2 rfl ((hit6 h0 h1).trans (e.trans or2560.symm))
  obtain ⟨m12, hn⟩ := List.forall_mem_cons.1 hn
  have n12 : ¬ w / 64 * 64 = 2624 := fun e => m12.1 ((hit6 h0 h1).trans e)
  have n12w : ¬ w / 64 * 64 = 35392 := fun e => m12.2 rfl ((hit6 h0 h1).trans (e.trans or2624.symm))
  obtain ⟨m13, hn⟩ := List.forall_mem_cons.1 hn
  have n13 : ¬ w / 64 * 64 = 2688 := fun e => m13.1 ((hit6 h0 h1).trans e)
  have n13w : ¬ w / 64 * 64 = 35456 := fun e => m13.2 rfl ((hit6 h0 h1).trans (e.trans or2688.symm))
  obtain ⟨m14, hn⟩ := List.forall_mem_cons.1 hn
  have n14 : ¬ w / 64 * 64 = 2752 := fun e => m14.1 ((hit6 h0 h1).trans e)
  have n14w : ¬ w / 64 * 64 = 35520 := fun e => m14.2 rfl ((hit6 h0 h1).trans (e.trans or2752.symm))
  obtain ⟨m15, hn⟩ := List.forall_mem_cons.1 hn
  have n15 : ¬ w / 64 * 64 = 2816 := fun e => m15.1 ((hit6 h0 h1).trans e)
  have n15w : ¬ w / 64 * 64 = 35584 := fun e => m15.2 rfl ((hit6 h0 h1).trans (e.trans or2816.symm))
  obtain ⟨m16, hn⟩ := List.forall_mem_cons.1 hn
  have n16 : ¬ w / 64 * 64 = 2880 := fun e => m16.1 ((hit6 h0 h1).trans e)
  have n16w : ¬ w / 64 * 64 = 35648 := fun e => m16.2 rfl ((hit6 h0 h1).trans (e.trans or2880.symm))
  obtain ⟨m17, hn⟩ := List.forall_mem_cons.1 hn
  have n17 : ¬ w / 64 * 64 = 2944 := fun e => m17.1 ((hit6 h0 h1).trans e)
  have n17w : ¬ w / 64 * 64 = 35712 := fun e => m17.2 rfl ((hit6 h0 h1).trans (e.trans or2944.symm))
  obtain ⟨m18, hn⟩ := List.forall_mem_cons.1 hn
  have n18 : ¬ w / 64 * 64 = 3008 := fun e => m18.1 ((hit6 h0 h1).trans e)
  have n18w : ¬ w / 64 * 64 = 35776 := fun e => m18.2 rfl ((hit6 h0 h1).trans (e.trans or3008.symm))
  obtain ⟨m19, hn⟩ := List.forall_mem_cons.1 hn
  have n19 : ¬ w / 64 * 64 = 3072 := fun e => m19.1 ((hit6 h0 h1).trans e)
  have n19w : ¬ w / 64 * 64 = 35840 := fun e => m19.2 rfl ((hit6 h0 h1).trans (e.trans or3072.symm))
  obtain ⟨m20, hn⟩ := List.forall_mem_cons.1 hn
  have n20 : ¬ w / 64 * 64 = 3136 := fun e => m20.1 ((hit6 h0 h1).trans e)
  have n20w : ¬ w / 64 * 64 = 35904 := fun e => m20.2 rfl ((hit6 h0 h1).trans (e.trans or3136.symm))
  obtain ⟨m21, hn⟩ := List.forall_mem_cons.1 hn
  have n21 : ¬ w / 64 * 64 = 3200 := fun e => m21.1 ((hit6 h0 h1).trans e)
  have n21w : ¬ w / 64 * 64 = 35968 := fun e => m21.2 rfl ((hit6 h0 h1).trans (e.trans or3200.symm))
  obtain ⟨m22, hn⟩ := List.forall_mem_cons.1 hn
  have n22 : ¬ w / 64 * 64 = 3264 := fun e => m22.1 ((hit6 h0 h1).trans e)
  have n22w : ¬ w / 64 * 64 = 36032 := fun e => m22.2 rfl ((hit6 h0 h1).trans (e.trans or3264.symm))
  obtain ⟨m23, hn⟩ := List.forall_mem_cons.1 hn
  have n23 : ¬ w / 64 * 64 = 192 := fun e => m23.1 ((hit6 h0 h1).trans e)
  obtain ⟨m24, hn⟩ := List.forall_mem_cons.1 hn
  have n24 : ¬ w / 64 * 64 = 3520 := fun e => m24.1 ((hit6 h0 h1).trans e)
  obtain ⟨m25, hn⟩ := List.forall_mem_cons.1 hn
  have n25 : ¬ w / 64 * 64 = 3392 := fun e => m25.1 ((hit6 h0 h1).trans e)
  obtain ⟨m26, hn⟩ := List.forall_mem_cons.1 hn
  have n26 : ¬ w / 64 * 64 = 3456 := fun e => m26.1 ((hit6 h0 h1).trans e)
  obtain ⟨m27, hn⟩ := List.forall_mem_cons.1 hn
  have n27 : ¬ w / 64 * 64 = 64 := fun e => m27.1 ((hit6 h0 h1).trans e)
  obtain ⟨m28, hn⟩ := List.forall_mem_cons.1 hn
  have n28 : ¬ w / 512 * 512 = 2048 := fun e => m28.1 ((hit9 h0 h1).trans e)
  obtain ⟨m29, hn⟩ := List.forall_mem_cons.1 hn
  have n29 : ¬ w / 8 * 8 = 128 := fun e => m29.1 ((hit3 h0 h1).trans e)
  obtain ⟨m30, hn⟩ := List.forall_mem_cons.1 hn
  have n30 : ¬ w / 512 * 512 = 32256 := fun e => m30.1 ((hit9 h0 h1).trans e)
  obtain ⟨m31, hn⟩ := List.forall_mem_cons.1 hn
  have n31 : ¬ w / 256 * 256 = 256 := fun e => m31.1 ((hit8 h0 h1).trans e)
  obtain ⟨m32, hn⟩ := List.forall_mem_cons.1 hn
  have n32 : ¬ w / 256 * 256 = 512 := fun e => m32.1 ((hit8 h0 h1).trans e)
  obtain ⟨m33, hn⟩ := List.forall_mem_cons.1 hn
  have n33 : ¬ w / 256 * 256 = 768 := fun e => m33.1 ((hit8 h0 h1).trans e)
  obtain ⟨m34, hn⟩ := List.forall_mem_cons.1 hn
  have n34 : ¬ w / 256 * 256 = 1024 := fun e => m34.1 ((hit8 h0 h1).trans e)
  obtain ⟨m35, hn⟩ := List.forall_mem_cons.1 hn
  have n35 : ¬ w / 256 * 256 = 1280 := fun e => m35.1 ((hit8 h0 h1).trans e)
  obtain ⟨m36, hn⟩ := List.forall_mem_cons.1 hn
  have n36 : ¬ w / 256 * 256 = 1536 := fun e => m36.1 ((hit8 h0 h1).trans e)
  obtain ⟨m37, hn⟩ := List.forall_mem_cons.1 hn
  have n37 : ¬ w / 256 * 256 = 1792 := fun e => m37.1 ((hit8 h0 h1).trans e)
  obtain ⟨m38, hn⟩ := List.forall_mem_cons.1 hn
  have n38 : ¬ w / 256 * 256 = 32768 := fun e => m38.1 ((hit8 h0 h1).trans e)
  obtain ⟨m39, hn⟩ := List.forall_mem_cons.1 hn
  have n39 : ¬ w / 256 * 256 = 33024 := fun e => m39.1 ((hit8 h0 h1).trans e)
  obtain ⟨m40, hn⟩ := List.forall_mem_cons.1 hn
  have n40 : ¬ w / 256 * 256 = 33280 := fun e => m40.1 ((hit8 h0 h1).trans e)
  obtain ⟨m41, hn⟩ := List.forall_mem_cons.1 hn
  have n41 : ¬ w / 256 * 256 = 33536 := fun e => m41.1 ((hit8 h0 h1).trans e)
  obtain ⟨m42, hn⟩ := List.forall_mem_cons.1 hn
  have n42 : ¬ w / 256 * 256 = 33792 := fun e => m42.1 ((hit8 h0 h1).trans e)
  obtain ⟨m43, hn⟩ := List.forall_mem_cons.1 hn
  have n43 : ¬ w / 256 * 256 = 34048 := fun e => m43.1 ((hit8 h0 h1).trans e)
  obtain ⟨m44, hn⟩ := List.forall_mem_cons.1 hn
  have n44 : ¬ w / 256 * 256 = 34304 := fun e => m44.1 ((hit8 h0 h1).trans e)
  obtain ⟨m45, hn⟩ := List.forall_mem_cons.1 hn
  have n45 : ¬ w / 256 * 256 = 34560 := fun e => m45.1 ((hit8 h0 h1).trans e)
  obtain ⟨m46, hn⟩ := List.forall_mem_cons.1 hn
  have n46 : ¬ w / 256 * 256 = 34816 := fun e => m46.1 ((hit8 h0 h1).trans e)
  obtain ⟨m47, hn⟩ := List.forall_mem_cons.1 hn
  have n47 : ¬ w / 256 * 256 = 35072 := fun e => m47.1 ((hit8 h0 h1).trans e)
  obtain ⟨m48, hn⟩ := List.forall_mem_cons.1 hn
  have n48 : ¬ w / 16 * 16 = 160 := fun e => m48.1 ((hit4 h0 h1).trans e)
  obtain ⟨m49, hn⟩ := List.forall_mem_cons.1 hn
  have n49 : ¬ w / 16 * 16 = 176 := fun e => m49.1 ((hit4 h0 h1).trans e)
  obtain ⟨m50, hn⟩ := List.forall_mem_cons.1 hn
  have n50 : ¬ w / 1 * 1 = 0 := fun e => m50.1 ((hit0 h0 h1).trans e)
  obtain ⟨m51, hn⟩ := List.forall_mem_cons.1 hn
  have n51 : ¬ w / 1 * 1 = 1 := fun e => m51.1 ((hit0 h0 h1).trans e)
  obtain ⟨m52, hn⟩ := List.forall_mem_cons.1 hn
  have n52 : ¬ w / 1 * 1 = 2 := fun e => m52.1 ((hit0 h0 h1).trans e)
  obtain ⟨m53, hn⟩ := List.forall_mem_cons.1 hn
  have n53 : ¬ w / 1 * 1 = 3 := fun e => m53.1 ((hit0 h0 h1).trans e)
  obtain ⟨m54, hn⟩ := List.forall_mem_cons.1 hn
  have n54 : ¬ w / 1 * 1 = 4 := fun e => m54.1 ((hit0 h0 h1).trans e)
  obtain ⟨m55, hn⟩ := List.forall_mem_cons.1 hn
  have n55 : ¬ w / 1 * 1 = 5 := fun e => m55.1 ((hit0 h0 h1).trans e)
  rw [shp, if_neg (c0 n0 n1 n2 n3 n4), if_neg (c1 n0w n1w n2w n3w n4w), if_neg (c2 n5), if_neg (c3 n6), if_neg (c4 n7 n8 n9), if_neg (c5 n10), if_neg (c6 n30), if_neg (c7 n11 n12 n13 n14 n15 n16 n17 n18), if_neg (c8 n11w n12w n13w n14w n15w n16w n17w n18w), if_neg (c9 n19 n20 n21 n22), if_neg (c10 n19w n20w n21w n22w), if_neg (c11 n23), if_neg (c12 n24), if_neg (c13 n25), if_neg (c14 n26), if_neg (c15 n27), if_neg (c16 n28), if_neg (c17 n29), if_neg (c18 n31 n32 n33 n34 n35 n36 n37), if_neg (c19 n38 n39 n40 n41 n42 n43 n44 n45), if_neg (c20 n46), if_neg (c21 n47), if_neg (c22 n48), if_neg (c23 n49), if_neg (c24 n50), if_neg (c25 n51), if_neg (c26 n52), if_neg (c27 n53), if_neg (c28 n54), if_neg (c29 n55)]
end PL
end Go.Proofs.Ytnonimnhninafaa.Ab

/- What an instruction of a form is; printed by a program of the session. -/
namespace Go.Proofs.Ytnonimnhninafaa.Ab
open Go
set_option linter.unusedVariables false
set_option linter.unusedSimpArgs false
namespace PL
set_option maxRecDepth 100000

def opd (o : M.Operand) : Prop := 0 ≤ o.Mode ∧ o.Mode ≤ 7 ∧ 0 ≤ o.Reg ∧ o.Reg ≤ 7 ∧ o.Ext = 0
theorem opd_frm (a : Int) : opd (frm a) := by unfold opd frm; dsimp only; omega
def alw (i : M.Inst) : Bool := (bif (i.Op == 41 || i.Op == 42) then i.Dst.Mode != 0 else true) && !(i.Op == 9 && (Int.tmod i.Reg 2 == 1))
structure Good (f : M.Inst_form) (i : M.Inst) : Prop where
  op : 1 ≤ i.Op ∧ i.Op ≤ 56
  byte : i.Byte = true → X.R06_Hasbyte i.Op = true
  src : X.R06_Hassrc i.Op = true ∧ opd i.Src ∨ X.R06_Hassrc i.Op = false ∧ i.Src = ⟨0, 0, 0⟩
  dst : X.R06_Hasdst i.Op = true ∧ opd i.Dst ∨ X.R06_Hasdst i.Op = false ∧ i.Dst = ⟨0, 0, 0⟩
  reg : 0 ≤ i.Reg ∧ i.Reg ≤ 7
  reg2 : i.Reg = 0 ∨ X.R06_Hasreg i.Op = true
  num : X.R06_least i.Op ≤ i.Num ∧ i.Num ≤ X.R06_greatest i.Op
  al : X.inst_form_allowed f i = alw i
section
variable {w : Int}

theorem g0 {b : Bool} : Good ⟨4096, 12, 1, 1, true⟩ (mk ⟨4096, 12, 1, 1, true⟩ b w) := by
  have e : mk ⟨4096, 12, 1, 1, true⟩ b w = ⟨1, b, frm (w / 64), frm w, 0, 0⟩ := by unfold mk; rw [F1]
  rw [e]
  refine ⟨(by dsimp only; omega), (fun _ => rfl), .inl ⟨rfl, opd_frm _⟩, .inl ⟨rfl, opd_frm _⟩, (by dsimp only; omega), .inl rfl, ?_, ?_⟩
  · dsimp only; rw [show X.R06_least 1 = 0 from rfl, show X.R06_greatest 1 = 0 from rfl]; first | omega | (unfold sgn; split <;> omega)
  · simp [X.inst_form_allowed, alw]
theorem g1 {b : Bool} : Good ⟨8192, 12, 2, 1, true⟩ (mk ⟨8192, 12, 2, 1, true⟩ b w) := by
  have e : mk ⟨8192, 12, 2, 1, true⟩ b w = ⟨2, b, frm (w / 64), frm w, 0, 0⟩ := by unfold mk; rw [F1]
  rw [e]
  refine ⟨(by dsimp only; omega), (fun _ => rfl), .inl ⟨rfl, opd_frm _⟩, .inl ⟨rfl, opd_frm _⟩, (by dsimp only; omega), .inl rfl, ?_, ?_⟩
  · dsimp only; rw [show X.R06_least 2 = 0 from rfl, show X.R06_greatest 2 = 0 from rfl]; first | omega | (unfold sgn; split <;> omega)
  · simp [X.inst_form_allowed, alw]
theorem g2 {b : Bool} : Good ⟨12288, 12, 3, 1, true⟩ (mk ⟨12288, 12, 3, 1, true⟩ b w) := by
  have e : mk ⟨12288, 12, 3, 1, true⟩ b w = ⟨3, b, frm (w / 64), frm w, 0, 0⟩ := by unfold mk; rw [F1]
  rw [e]
  refine ⟨(by dsimp only; omega), (fun _ => rfl), .inl ⟨rfl, opd_frm _⟩, .inl ⟨rfl, opd_frm _⟩, (by dsimp only; omega), .inl rfl, ?_, ?_⟩
  · dsimp only; rw [show X.R06_least 3 = 0 from rfl, show X.R06_greatest 3 = 0 from rfl]; first | omega | (unfold sgn; split <;> omega)
  · simp [X.inst_form_allowed, alw]
theorem g3 {b : Bool} : Good ⟨16384, 12, 4, 1, true⟩ (mk ⟨16384, 12, 4, 1, true⟩ b w) := by
  have e : mk ⟨16384, 12, 4, 1, true⟩ b w = ⟨4, b, frm (w / 64), frm w, 0, 0⟩ := by unfold mk; rw [F1]
  rw [e]
  refine ⟨(by dsimp only; omega), (fun _ => rfl), .inl ⟨rfl, opd_frm _⟩, .inl ⟨rfl, opd_frm _⟩, (by dsimp only; omega), .inl rfl, ?_, ?_⟩
  · dsimp only; rw [show X.R06_least 4 = 0 from rfl, show X.R06_greatest 4 = 0 from rfl]; first | omega | (unfold sgn; split <;> omega)
  · simp [X.inst_form_allowed, alw]
theorem g4 {b : Bool} : Good ⟨20480, 12, 5, 1, true⟩ (mk ⟨20480, 12, 5, 1, true⟩ b w) := by
  have e : mk ⟨20480, 12, 5, 1, true⟩ b w = ⟨5, b, frm (w / 64), frm w, 0, 0⟩ := by unfold mk; rw [F1]
  rw [e]
  refine ⟨(by dsimp only; omega), (fun _ => rfl), .inl ⟨rfl, opd_frm _⟩, .inl ⟨rfl, opd_frm _⟩, (by dsimp only; omega), .inl rfl, ?_, ?_⟩
  · dsimp only; rw [show X.R06_least 5 = 0 from rfl, show X.R06_greatest 5 = 0 from rfl]; first | omega | (unfold sgn; split <;> omega)
  · simp [X.inst_form_allowed, alw]
theorem g5 : Good ⟨24576, 12, 6, 1, false⟩ (mk ⟨24576, 12, 6, 1, false⟩ false w) := by
  have e : mk ⟨24576, 12, 6, 1, false⟩ false w = ⟨6, false, frm (w / 64), frm w, 0, 0⟩ := by unfold mk; rw [F1]
  rw [e]
  refine ⟨(by dsimp only; omega), (fun h => by cases h), .inl ⟨rfl, opd_frm _⟩, .inl ⟨rfl, opd_frm _⟩, (by dsimp only; omega), .inl rfl, ?_, ?_⟩
  · dsimp only; rw [show X.R06_least 6 = 0 from rfl, show X.R06_greatest 6 = 0 from rfl]; first | omega | (unfold sgn; split <;> omega)
  · simp [X.inst_form_allowed, alw]
theorem g6 : Good ⟨57344, 12, 7, 1, false⟩ (mk ⟨57344, 12, 7, 1, false⟩ false w) := by
  have e : mk ⟨57344, 12, 7, 1, false⟩ false w = ⟨7, false, frm (w / 64), frm w, 0, 0⟩ := by unfold mk; rw [F1]
  rw [e]
  refine ⟨(by dsimp only; omega), (fun h => by cases h), .inl ⟨rfl, opd_frm _⟩, .inl ⟨rfl, opd_frm _⟩, (by dsimp only; omega), .inl rfl, ?_, ?_⟩
  · dsimp only; rw [show X.R06_least 7 = 0 from rfl, show X.R06_greatest 7 = 0 from rfl]; first | omega | (unfold sgn; split <;> omega)
  · simp [X.inst_form_allowed, alw]
theorem g7 : Good ⟨28672, 9, 8, 5, false⟩ (mk ⟨28672, 9, 8, 5, false⟩ false w) := by
  have e : mk ⟨28672, 9, 8, 5, false⟩ false w = ⟨8, false, frm w, (⟨0, 0, 0⟩ : M.Operand), w / 64 % 8, 0⟩ := by unfold mk; rw [F5]
  rw [e]
  refine ⟨(by dsimp only; omega), (fun h => by cases h), .inl ⟨rfl, opd_frm _⟩, .inr ⟨rfl, rfl⟩, (by dsimp only; omega), .inr rfl, ?_, ?_⟩
  · dsimp only; rw [show X.R06_least 8 = 0 from rfl, show X.R06_greatest 8 = 0 from rfl]; first | omega | (unfold sgn; split <;> omega)
  · simp [X.inst_form_allowed, alw]
theorem g8 : Good ⟨29184, 9, 9, 5, false⟩ (mk ⟨29184, 9, 9, 5, false⟩ false w) := by
  have e : mk ⟨29184, 9, 9, 5, false⟩ false w = ⟨9, false, frm w, (⟨0, 0, 0⟩ : M.Operand), w / 64 % 8, 0⟩ := by unfold mk; rw [F5]
  rw [e]
  refine ⟨(by dsimp only; omega), (fun h => by cases h), .inl ⟨rfl, opd_frm _⟩, .inr ⟨rfl, rfl⟩, (by dsimp only; omega), .inr rfl, ?_, ?_⟩
  · dsimp only; rw [show X.R06_least 9 = 0 from rfl, show X.R06_greatest 9 = 0 from rfl]; first | omega | (unfold sgn; split <;> omega)
  · have h : Int.tmod (w / 64 % 8) 2 = w / 64 % 8 % 2 := Int.tmod_eq_emod_of_nonneg (by omega)
    simp only [X.inst_form_allowed, alw, h]
    have : w / 64 % 8 % 2 = 0 ∨ w / 64 % 8 % 2 = 1 := by omega
    rcases this with h | h <;> rw [h] <;> rfl
theorem g9 : Good ⟨29696, 9, 10, 5, false⟩ (mk ⟨29696, 9, 10, 5, false⟩ false w) := by
  have e : mk ⟨29696, 9, 10, 5, false⟩ false w = ⟨10, false, frm w, (⟨0, 0, 0⟩ : M.Operand), w / 64 % 8, 0⟩ := by unfold mk; rw [F5]
  rw [e]
  refine ⟨(by dsimp only; omega), (fun h => by cases h), .inl ⟨rfl, opd_frm _⟩, .inr ⟨rfl, rfl⟩, (by dsimp only; omega), .inr rfl, ?_, ?_⟩
  · dsimp only; rw [show X.R06_least 10 = 0 from rfl, show X.R06_greatest 10 = 0 from rfl]; first | omega | (unfold sgn; split <;> omega)
  · simp [X.inst_form_allowed, alw]
theorem g10 : Good ⟨30720, 9, 11, 6, false⟩ (mk ⟨30720, 9, 11, 6, false⟩ false w) := by
  have e : mk ⟨30720, 9, 11, 6, false⟩ false w = ⟨11, false, (⟨0, 0, 0⟩ : M.Operand), frm w, w / 64 % 8, 0⟩ := by unfold mk; rw [F6]
  rw [e]
  refine ⟨(by dsimp only; omega), (fun h => by cases h), .inr ⟨rfl, rfl⟩, .inl ⟨rfl, opd_frm _⟩, (by dsimp only; omega), .inr rfl, ?_, ?_⟩
  · dsimp only; rw [show X.R06_least 11 = 0 from rfl, show X.R06_greatest 11 = 0 from rfl]; first | omega | (unfold sgn; split <;> omega)
  · simp [X.inst_form_allowed, alw]
theorem g11 {b : Bool} : Good ⟨2560, 6, 12, 3, true⟩ (mk ⟨2560, 6, 12, 3, true⟩ b w) := by
  have e : mk ⟨2560, 6, 12, 3, true⟩ b w = ⟨12, b, (⟨0, 0, 0⟩ : M.Operand), frm w, 0, 0⟩ := by unfold mk; rw [F3]
  rw [e]
  refine ⟨(by dsimp only; omega), (fun _ => rfl), .inr ⟨rfl, rfl⟩, .inl ⟨rfl, opd_frm _⟩, (by dsimp only; omega), .inl rfl, ?_, ?_⟩
  · dsimp only; rw [show X.R06_least 12 = 0 from rfl, show X.R06_greatest 12 = 0 from rfl]; first | omega | (unfold sgn; split <;> omega)
  · simp [X.inst_form_allowed, alw]
theorem g12 {b : Bool} : Good ⟨2624, 6, 13, 3, true⟩ (mk ⟨2624, 6, 13, 3, true⟩ b w) := by
  have e : mk ⟨2624, 6, 13, 3, true⟩ b w = ⟨13, b, (⟨0, 0, 0⟩ : M.Operand), frm w, 0, 0⟩ := by unfold mk; rw [F3]
  rw [e]
  refine ⟨(by dsimp only; omega), (fun _ => rfl), .inr ⟨rfl, rfl⟩, .inl ⟨rfl, opd_frm _⟩, (by dsimp only; omega), .inl rfl, ?_, ?_⟩
  · dsimp only; rw [show X.R06_least 13 = 0 from rfl, show X.R06_greatest 13 = 0 from rfl]; first | omega | (unfold sgn; split <;> omega)
  · simp [X.inst_form_allowed, alw]
theorem g13 {b : Bool} : Good ⟨2688, 6, 14, 3, true⟩ (mk ⟨2688, 6, 14, 3, true⟩ b w) := by
  have e : mk ⟨2688, 6, 14, 3, true⟩ b w = ⟨14, b, (⟨0, 0, 0⟩ : M.Operand), frm w, 0, 0⟩ := by unfold mk; rw [F3]
  rw [e]
  refine ⟨(by dsimp only; omega), (fun _ => rfl), .inr ⟨rfl, rfl⟩, .inl ⟨rfl, opd_frm _⟩, (by dsimp only; omega), .inl rfl, ?_, ?_⟩
  · dsimp only; rw [show X.R06_least 14 = 0 from rfl, show X.R06_greatest 14 = 0 from rfl]; first | omega | (unfold sgn; split <;> omega)
  · simp [X.inst_form_allowed, alw]
theorem g14 {b : Bool} : Good ⟨2752, 6, 15, 3, true⟩ (mk ⟨2752, 6, 15, 3, true⟩ b w) := by
  have e : mk ⟨2752, 6, 15, 3, true⟩ b w = ⟨15, b, (⟨0, 0, 0⟩ : M.Operand), frm w, 0, 0⟩ := by unfold mk; rw [F3]
  rw [e]
  refine ⟨(by dsimp only; omega), (fun _ => rfl), .inr ⟨rfl, rfl⟩, .inl ⟨rfl, opd_frm _⟩, (by dsimp only; omega), .inl rfl, ?_, ?_⟩
  · dsimp only; rw [show X.R06_least 15 = 0 from rfl, show X.R06_greatest 15 = 0 from rfl]; first | omega | (unfold sgn; split <;> omega)
  · simp [X.inst_form_allowed, alw]
theorem g15 {b : Bool} : Good ⟨2816, 6, 16, 3, true⟩ (mk ⟨2816, 6, 16, 3, true⟩ b w) := by
  have e : mk ⟨2816, 6, 16, 3, true⟩ b w = ⟨16, b, (⟨0, 0, 0⟩ : M.Operand), frm w, 0, 0⟩ := by unfold mk; rw [F3]
  rw [e]
  refine ⟨(by dsimp only; omega), (fun _ => rfl), .inr ⟨rfl, rfl⟩, .inl ⟨rfl, opd_frm _⟩, (by dsimp only; omega), .inl rfl, ?_, ?_⟩
  · dsimp only; rw [show X.R06_least 16 = 0 from rfl, show X.R06_greatest 16 = 0 from rfl]; first | omega | (unfold sgn; split <;> omega)
  · simp [X.inst_form_allowed, alw]
theorem g16 {b : Bool} : Good ⟨2880, 6, 17, 3, true⟩ (mk ⟨2880, 6, 17, 3, true⟩ b w) := by
  have e : mk ⟨2880, 6, 17, 3, true⟩ b w = ⟨17, b, (⟨0, 0, 0⟩ : M.Operand), frm w, 0, 0⟩ := by unfold mk; rw [F3]
  rw [e]
  refine ⟨(by dsimp only; omega), (fun _ => rfl), .inr ⟨rfl, rfl⟩, .inl ⟨rfl, opd_frm _⟩, (by dsimp only; omega), .inl rfl, ?_, ?_⟩
  · dsimp only; rw [show X.R06_least 17 = 0 from rfl, show X.R06_greatest 17 = 0 from rfl]; first | omega | (unfold sgn; split <;> omega)
  · simp [X.inst_form_allowed, alw]
theorem g17 {b : Bool} : Good ⟨2944, 6, 18, 3, true⟩ (mk ⟨2944, 6, 18, 3, true⟩ b w) := by
  have e : mk ⟨2944, 6, 18, 3, true⟩ b w = ⟨18, b, (⟨0, 0, 0⟩ : M.Operand), frm w, 0, 0⟩ := by unfold mk; rw [F3]
  rw [e]
  refine ⟨(by dsimp only; omega), (fun _ => rfl), .inr ⟨rfl, rfl⟩, .inl ⟨rfl, opd_frm _⟩, (by dsimp only; omega), .inl rfl, ?_, ?_⟩
  · dsimp only; rw [show X.R06_least 18 = 0 from rfl, show X.R06_greatest 18 = 0 from rfl]; first | omega | (unfold sgn; split <;> omega)
  · simp [X.inst_form_allowed, alw]
theorem g18 {b : Bool} : Good ⟨3008, 6, 19, 3, true⟩ (mk ⟨3008, 6, 19, 3, true⟩ b w) := by
  have e : mk ⟨3008, 6, 19, 3, true⟩ b w = ⟨19, b, (⟨0, 0, 0⟩ : M.Operand), frm w, 0, 0⟩ := by unfold mk; rw [F3]
  rw [e]
  refine ⟨(by dsimp only; omega), (fun _ => rfl), .inr ⟨rfl, rfl⟩, .inl ⟨rfl, opd_frm _⟩, (by dsimp only; omega), .inl rfl, ?_, ?_⟩
  · dsimp only; rw [show X.R06_least 19 = 0 from rfl, show X.R06_greatest 19 = 0 from rfl]; first | omega | (unfold sgn; split <;> omega)
  · simp [X.inst_form_allowed, alw]
theorem g19 {b : Bool} : Good ⟨3072, 6, 20, 3, true⟩ (mk ⟨3072, 6, 20, 3, true⟩ b w) := by
  have e : mk ⟨3072, 6, 20, 3, true⟩ b w = ⟨20, b, (⟨0, 0, 0⟩ : M.Operand), frm w, 0, 0⟩ := by unfold mk; rw [F3]
  rw [e]
  refine ⟨(by dsimp only; omega), (fun _ => rfl), .inr ⟨rfl, rfl⟩, .inl ⟨rfl, opd_frm _⟩, (by dsimp only; omega), .inl rfl, ?_, ?_⟩
  · dsimp only; rw [show X.R06_least 20 = 0 from rfl, show X.R06_greatest 20 = 0 from rfl]; first | omega | (unfold sgn; split <;> omega)
  · simp [X.inst_form_allowed, alw]
theorem g20 {b : Bool} : Good ⟨3136, 6, 21, 3, true⟩ (mk ⟨3136, 6, 21, 3, true⟩ b w) := by
  have e : mk ⟨3136, 6, 21, 3, true⟩ b w = ⟨21, b, (⟨0, 0, 0⟩ : M.Operand), frm w, 0, 0⟩ := by unfold mk; rw [F3]
  rw [e]
  refine ⟨(by dsimp only; omega), (fun _ => rfl), .inr ⟨rfl, rfl⟩, .inl ⟨rfl, opd_frm _⟩, (by dsimp only; omega), .inl rfl, ?_, ?_⟩
  · dsimp only; rw [show X.R06_least 21 = 0 from rfl, show X.R06_greatest 21 = 0 from rfl]; first | omega | (unfold sgn; split <;> omega)
  · simp [X.inst_form_allowed, alw]
theorem g21 {b : Bool} : Good ⟨3200, 6, 22, 3, true⟩ (mk ⟨3200, 6, 22, 3, true⟩ b w) := by
  have e : mk ⟨3200, 6, 22, 3, true⟩ b w = ⟨22, b, (⟨0, 0, 0⟩ : M.Operand), frm w, 0, 0⟩ := by unfold mk; rw [F3]
  rw [e]
  refine ⟨(by dsimp only; omega), (fun _ => rfl), .inr ⟨rfl, rfl⟩, .inl ⟨rfl, opd_frm _⟩, (by dsimp only; omega), .inl rfl, ?_, ?_⟩
  · dsimp only; rw [show X.R06_least 22 = 0 from rfl, show X.R06_greatest 22 = 0 from rfl]; first | omega | (unfold sgn; split <;> omega)
  · simp [X.inst_form_allowed, alw]
theorem g22 {b : Bool} : Good ⟨3264, 6, 23, 3, true⟩ (mk ⟨3264, 6, 23, 3, true⟩ b w) := by
  have e : mk ⟨3264, 6, 23, 3, true⟩ b w = ⟨23, b, (⟨0, 0, 0⟩ : M.Operand), frm w, 0, 0⟩ := by unfold mk; rw [F3]
  rw [e]
  refine ⟨(by dsimp only; omega), (fun _ => rfl), .inr ⟨rfl, rfl⟩, .inl ⟨rfl, opd_frm _⟩, (by dsimp only; omega), .inl rfl, ?_, ?_⟩
  · dsimp only; rw [show X.R06_least 23 = 0 from rfl, show X.R06_greatest 23 = 0 from rfl]; first | omega | (unfold sgn; split <;> omega)
  · simp [X.inst_form_allowed, alw]
theorem g23 : Good ⟨192, 6, 24, 3, false⟩ (mk ⟨192, 6, 24, 3, false⟩ false w) := by
  have e : mk ⟨192, 6, 24, 3, false⟩ false w = ⟨24, false, (⟨0, 0, 0⟩ : M.Operand), frm w, 0, 0⟩ := by unfold mk; rw [F3]
  rw [e]
  refine ⟨(by dsimp only; omega), (fun h => by cases h), .inr ⟨rfl, rfl⟩, .inl ⟨rfl, opd_frm _⟩, (by dsimp only; omega), .inl rfl, ?_, ?_⟩
  · dsimp only; rw [show X.R06_least 24 = 0 from rfl, show X.R06_greatest 24 = 0 from rfl]; first | omega | (unfold sgn; split <;> omega)
  · simp [X.inst_form_allowed, alw]
theorem g24 : Good ⟨3520, 6, 25, 3, false⟩ (mk ⟨3520, 6, 25, 3, false⟩ false w) := by
  have e : mk ⟨3520, 6, 25, 3, false⟩ false w = ⟨25, false, (⟨0, 0, 0⟩ : M.Operand), frm w, 0, 0⟩ := by unfold mk; rw [F3]
  rw [e]
  refine ⟨(by dsimp only; omega), (fun h => by cases h), .inr ⟨rfl, rfl⟩, .inl ⟨rfl, opd_frm _⟩, (by dsimp only; omega), .inl rfl, ?_, ?_⟩
  · dsimp only; rw [show X.R06_least 25 = 0 from rfl, show X.R06_greatest 25 = 0 from rfl]; first | omega | (unfold sgn; split <;> omega)
  · simp [X.inst_form_allowed, alw]
theorem g25 : Good ⟨3392, 6, 55, 2, false⟩ (mk ⟨3392, 6, 55, 2, false⟩ false w) := by
  have e : mk ⟨3392, 6, 55, 2, false⟩ false w = ⟨55, false, frm w, (⟨0, 0, 0⟩ : M.Operand), 0, 0⟩ := by unfold mk; rw [F2]
  rw [e]
  refine ⟨(by dsimp only; omega), (fun h => by cases h), .inl ⟨rfl, opd_frm _⟩, .inr ⟨rfl, rfl⟩, (by dsimp only; omega), .inl rfl, ?_, ?_⟩
  · dsimp only; rw [show X.R06_least 55 = 0 from rfl, show X.R06_greatest 55 = 0 from rfl]; first | omega | (unfold sgn; split <;> omega)
  · simp [X.inst_form_allowed, alw]
theorem g26 : Good ⟨3456, 6, 56, 3, false⟩ (mk ⟨3456, 6, 56, 3, false⟩ false w) := by
  have e : mk ⟨3456, 6, 56, 3, false⟩ false w = ⟨56, false, (⟨0, 0, 0⟩ : M.Operand), frm w, 0, 0⟩ := by unfold mk; rw [F3]
  rw [e]
  refine ⟨(by dsimp only; omega), (fun h => by cases h), .inr ⟨rfl, rfl⟩, .inl ⟨rfl, opd_frm _⟩, (by dsimp only; omega), .inl rfl, ?_, ?_⟩
  · dsimp only; rw [show X.R06_least 56 = 0 from rfl, show X.R06_greatest 56 = 0 from rfl]; first | omega | (unfold sgn; split <;> omega)
  · simp [X.inst_form_allowed, alw]
theorem g27 : Good ⟨64, 6, 41, 4, false⟩ (mk ⟨64, 6, 41, 4, false⟩ false w) := by
  have e : mk ⟨64, 6, 41, 4, false⟩ false w = ⟨41, false, (⟨0, 0, 0⟩ : M.Operand), frm w, 0, 0⟩ := by unfold mk; rw [F4]
  rw [e]
  refine ⟨(by dsimp only; omega), (fun h => by cases h), .inr ⟨rfl, rfl⟩, .inl ⟨rfl, opd_frm _⟩, (by dsimp only; omega), .inl rfl, ?_, ?_⟩
  · dsimp only; rw [show X.R06_least 41 = 0 from rfl, show X.R06_greatest 41 = 0 from rfl]; first | omega | (unfold sgn; split <;> omega)
  · simp [X.inst_form_allowed, alw]
theorem g28 : Good ⟨2048, 9, 42, 7, false⟩ (mk ⟨2048, 9, 42, 7, false⟩ false w) := by
  have e : mk ⟨2048, 9, 42, 7, false⟩ false w = ⟨42, false, (⟨0, 0, 0⟩ : M.Operand), frm w, w / 64 % 8, 0⟩ := by unfold mk; rw [F7]
  rw [e]
  refine ⟨(by dsimp only; omega), (fun h => by cases h), .inr ⟨rfl, rfl⟩, .inl ⟨rfl, opd_frm _⟩, (by dsimp only; omega), .inr rfl, ?_, ?_⟩
  · dsimp only; rw [show X.R06_least 42 = 0 from rfl, show X.R06_greatest 42 = 0 from rfl]; first | omega | (unfold sgn; split <;> omega)
  · simp [X.inst_form_allowed, alw]
theorem g29 : Good ⟨128, 3, 43, 8, false⟩ (mk ⟨128, 3, 43, 8, false⟩ false w) := by
  have e : mk ⟨128, 3, 43, 8, false⟩ false w = ⟨43, false, (⟨0, 0, 0⟩ : M.Operand), (⟨0, 0, 0⟩ : M.Operand), w % 8, 0⟩ := by unfold mk; rw [F8]
  rw [e]
  refine ⟨(by dsimp only; omega), (fun h => by cases h), .inr ⟨rfl, rfl⟩, .inr ⟨rfl, rfl⟩, (by dsimp only; omega), .inr rfl, ?_, ?_⟩
  · dsimp only; rw [show X.R06_least 43 = 0 from rfl, show X.R06_greatest 43 = 0 from rfl]; first | omega | (unfold sgn; split <;> omega)
  · simp [X.inst_form_allowed, alw]
theorem g30 : Good ⟨32256, 9, 44, 10, false⟩ (mk ⟨32256, 9, 44, 10, false⟩ false w) := by
  have e : mk ⟨32256, 9, 44, 10, false⟩ false w = ⟨44, false, (⟨0, 0, 0⟩ : M.Operand), (⟨0, 0, 0⟩ : M.Operand), w / 64 % 8, w % 64⟩ := by unfold mk; rw [F10]
  rw [e]
  refine ⟨(by dsimp only; omega), (fun h => by cases h), .inr ⟨rfl, rfl⟩, .inr ⟨rfl, rfl⟩, (by dsimp only; omega), .inr rfl, ?_, ?_⟩
  · dsimp only; rw [show X.R06_least 44 = 0 from rfl, show X.R06_greatest 44 = 63 from rfl]; first | omega | (unfold sgn; split <;> omega)
  · simp [X.inst_form_allowed, alw]
theorem g31 : Good ⟨256, 8, 26, 9, false⟩ (mk ⟨256, 8, 26, 9, false⟩ false w) := by
  have e : mk ⟨256, 8, 26, 9, false⟩ false w = ⟨26, false, (⟨0, 0, 0⟩ : M.Operand), (⟨0, 0, 0⟩ : M.Operand), 0, sgn (w % 256)⟩ := by unfold mk; rw [F9]
  rw [e]
  refine ⟨(by dsimp only; omega), (fun h => by cases h), .inr ⟨rfl, rfl⟩, .inr ⟨rfl, rfl⟩, (by dsimp only; omega), .inl rfl, ?_, ?_⟩
  · dsimp only; rw [show X.R06_least 26 = -128 from rfl, show X.R06_greatest 26 = 127 from rfl]; first | omega | (unfold sgn; split <;> omega)
  · simp [X.inst_form_allowed, alw]
theorem g32 : Good ⟨512, 8, 27, 9, false⟩ (mk ⟨512, 8, 27, 9, false⟩ false w) := by
  have e : mk ⟨512, 8, 27, 9, false⟩ false w = ⟨27, false, (⟨0, 0, 0⟩ : M.Operand), (⟨0, 0, 0⟩ : M.Operand), 0, sgn (w % 256)⟩ := by unfold mk; rw [F9]
  rw [e]
  refine ⟨(by dsimp only; omega), (fun h => by cases h), .inr ⟨rfl, rfl⟩, .inr ⟨rfl, rfl⟩, (by dsimp only; omega), .inl rfl, ?_, ?_⟩
  · dsimp only; rw [show X.R06_least 27 = -128 from rfl, show X.R06_greatest 27 = 127 from rfl]; first | omega | (unfold sgn; split <;> omega)
  · simp [X.inst_form_allowed, alw]
theorem g33 : Good ⟨768, 8, 28, 9, false⟩ (mk ⟨768, 8, 28, 9, false⟩ false w) := by
  have e : mk ⟨768, 8, 28, 9, false⟩ false w = ⟨28, false, (⟨0, 0, 0⟩ : M.Operand), (⟨0, 0, 0⟩ : M.Operand), 0, sgn (w % 256)⟩ := by unfold mk; rw [F9]
  rw [e]
  refine ⟨(by dsimp only; omega), (fun h => by cases h), .inr ⟨rfl, rfl⟩, .inr ⟨rfl, rfl⟩, (by dsimp only; omega), .inl rfl, ?_, ?_⟩
  · dsimp only; rw [show X.R06_least 28 = -128 from rfl, show X.R06_greatest 28 = 127 from rfl]; first | omega | (unfold sgn; split <;> omega)
  · simp [X.inst_form_allowed, alw]
theorem g34 : Good ⟨1024, 8, 29, 9, false⟩ (mk ⟨1024, 8, 29, 9, false⟩ false w) := by
  have e : mk ⟨1024, 8, 29, 9, false⟩ false w = ⟨29, false, (⟨0, 0, 0⟩ : M.Operand), (⟨0, 0, 0⟩ : M.Operand), 0, sgn (w % 256)⟩ := by unfold mk; rw [F9]
  rw [e]
  refine ⟨(by dsimp only; omega), (fun h => by cases h), .inr ⟨rfl, rfl⟩, .inr ⟨rfl, rfl⟩, (by dsimp only; omega), .inl rfl, ?_, ?_⟩
  · dsimp only; rw [show X.R06_least 29 = -128 from rfl, show X.R06_greatest 29 = 127 from rfl]; first | omega | (unfold sgn; split <;> omega)
  · simp [X.inst_form_allowed, alw]
theorem g35 : Good ⟨1280, 8, 30, 9, false⟩ (mk ⟨1280, 8, 30, 9, false⟩ false w) := by
  have e : mk ⟨1280, 8, 30, 9, false⟩ false w = ⟨30, false, (⟨0, 0, 0⟩ : M.Operand), (⟨0, 0, 0⟩ : M.Operand), 0, sgn (w % 256)⟩ := by unfold mk; rw [F9]
  rw [e]
  refine ⟨(by dsimp only; omega), (fun h => by cases h), .inr ⟨rfl, rfl⟩, .inr ⟨rfl, rfl⟩, (by dsimp only; omega), .inl rfl, ?_, ?_⟩
  · dsimp only; rw [show X.R06_least 30 = -128 from rfl, show X.R06_greatest 30 = 127 from rfl]; first | omega | (unfold sgn; split <;> omega)
  · simp [X.inst_form_allowed, alw]
theorem g36 : Good ⟨1536, 8, 31, 9, false⟩ (mk ⟨1536, 8, 31, 9, false⟩ false w) := by
  have e : mk ⟨1536, 8, 31, 9, false⟩ false w = ⟨31, false, (⟨0, 0, 0⟩ : M.Operand), (⟨0, 0, 0⟩ : M.Operand), 0, sgn (w % 256)⟩ := by unfold mk; rw [F9]
  rw [e]
  refine ⟨(by dsimp only; omega), (fun h => by cases h), .inr ⟨rfl, rfl⟩, .inr ⟨rfl, rfl⟩, (by dsimp only; omega), .inl rfl, ?_, ?_⟩
  · dsimp only; rw [show X.R06_least 31 = -128 from rfl, show X.R06_greatest 31 = 127 from rfl]; first | omega | (unfold sgn; split <;> omega)
  · simp [X.inst_form_allowed, alw]
theorem g37 : Good ⟨1792, 8, 32, 9, false⟩ (mk ⟨1792, 8, 32, 9, false⟩ false w) := by
  have e : mk ⟨1792, 8, 32, 9, false⟩ false w = ⟨32, false, (⟨0, 0, 0⟩ : M.Operand), (⟨0, 0, 0⟩ : M.Operand), 0, sgn (w % 256)⟩ := by unfold mk; rw [F9]
  rw [e]
  refine ⟨(by dsimp only; omega), (fun h => by cases h), .inr ⟨rfl, rfl⟩, .inr ⟨rfl, rfl⟩, (by dsimp only; omega), .inl rfl, ?_, ?_⟩
  · dsimp only; rw [show X.R06_least 32 = -128 from rfl, show X.R06_greatest 32 = 127 from rfl]; first | omega | (unfold sgn; split <;> omega)
  · simp [X.inst_form_allowed, alw]
theorem g38 : Good ⟨32768, 8, 33, 9, false⟩ (mk ⟨32768, 8, 33, 9, false⟩ false w) := by
  have e : mk ⟨32768, 8, 33, 9, false⟩ false w = ⟨33, false, (⟨0, 0, 0⟩ : M.Operand), (⟨0, 0, 0⟩ : M.Operand), 0, sgn (w % 256)⟩ := by unfold mk; rw [F9]
  rw [e]
  refine ⟨(by dsimp only; omega), (fun h => by cases h), .inr ⟨rfl, rfl⟩, .inr ⟨rfl, rfl⟩, (by dsimp only; omega), .inl rfl, ?_, ?_⟩
  · dsimp only; rw [show X.R06_least 33 = -128 from rfl, show X.R06_greatest 33 = 127 from rfl]; first | omega | (unfold sgn; split <;> omega)
  · simp [X.inst_form_allowed, alw]
theorem g39 : Good ⟨33024, 8, 34, 9, false⟩ (mk ⟨33024, 8, 34, 9, false⟩ false w) := by
  have e : mk ⟨33024, 8, 34, 9, false⟩ false w = ⟨34, false, (⟨0, 0, 0⟩ : M.Operand), (⟨0, 0, 0⟩ : M.Operand), 0, sgn (w % 256)⟩ := by unfold mk; rw [F9]
  rw [e]
  refine ⟨(by dsimp only; omega), (fun h => by cases h), .inr ⟨rfl, rfl⟩, .inr ⟨rfl, rfl⟩, (by dsimp only; omega), .inl rfl, ?_, ?_⟩
  · dsimp only; rw [show X.R06_least 34 = -128 from rfl, show X.R06_greatest 34 = 127 from rfl]; first | omega | (unfold sgn; split <;> omega)
  · simp [X.inst_form_allowed, alw]
theorem g40 : Good ⟨33280, 8, 35, 9, false⟩ (mk ⟨33280, 8, 35, 9, false⟩ false w) := by
  have e : mk ⟨33280, 8, 35, 9, false⟩ false w = ⟨35, false, (⟨0, 0, 0⟩ : M.Operand), (⟨0, 0, 0⟩ : M.Operand), 0, sgn (w % 256)⟩ := by unfold mk; rw [F9]
  rw [e]
  refine ⟨(by dsimp only; omega), (fun h => by cases h), .inr ⟨rfl, rfl⟩, .inr ⟨rfl, rfl⟩, (by dsimp only; omega), .inl rfl, ?_, ?_⟩
  · dsimp only; rw [show X.R06_least 35 = -128 from rfl, show X.R06_greatest 35 = 127 from rfl]; first | omega | (unfold sgn; split <;> omega)
  · simp [X.inst_form_allowed, alw]
theorem g41 : Good ⟨33536, 8, 36, 9, false⟩ (mk ⟨33536, 8, 36, 9, false⟩ false w) := by
  have e : mk ⟨33536, 8, 36, 9, false⟩ false w = ⟨36, false, (⟨0, 0, 0⟩ : M.Operand), (⟨0, 0, 0⟩ : M.Operand), 0, sgn (w % 256)⟩ := by unfold mk; rw [F9]
  rw [e]
  refine ⟨(by dsimp only; omega), (fun h => by cases h), .inr ⟨rfl, rfl⟩, .inr ⟨rfl, rfl⟩, (by dsimp only; omega), .inl rfl, ?_, ?_⟩
  · dsimp only; rw [show X.R06_least 36 = -128 from rfl, show X.R06_greatest 36 = 127 from rfl]; first | omega | (unfold sgn; split <;> omega)
  · simp [X.inst_form_allowed, alw]
theorem g42 : Good ⟨33792, 8, 37, 9, false⟩ (mk ⟨33792, 8, 37, 9, false⟩ false w) := by
  have e : mk ⟨33792, 8, 37, 9, false⟩ false w = ⟨37, false, (⟨0, 0, 0⟩ : M.Operand), (⟨0, 0, 0⟩ : M.Operand), 0, sgn (w % 256)⟩ := by unfold mk; rw [F9]
  rw [e]
  refine ⟨(by dsimp only; omega), (fun h => by cases h), .inr ⟨rfl, rfl⟩, .inr ⟨rfl, rfl⟩, (by dsimp only; omega), .inl rfl, ?_, ?_⟩
  · dsimp only; rw [show X.R06_least 37 = -128 from rfl, show X.R06_greatest 37 = 127 from rfl]; first | omega | (unfold sgn; split <;> omega)
  · simp [X.inst_form_allowed, alw]
theorem g43 : Good ⟨34048, 8, 38, 9, false⟩ (mk ⟨34048, 8, 38, 9, false⟩ false w) := by
  have e : mk ⟨34048, 8, 38, 9, false⟩ false w = ⟨38, false, (⟨0, 0, 0⟩ : M.Operand), (⟨0, 0, 0⟩ : M.Operand), 0, sgn (w % 256)⟩ := by unfold mk; rw [F9]
  rw [e]
  refine ⟨(by dsimp only; omega), (fun h => by cases h), .inr ⟨rfl, rfl⟩, .inr ⟨rfl, rfl⟩, (by dsimp only; omega), .inl rfl, ?_, ?_⟩
  · dsimp only; rw [show X.R06_least 38 = -128 from rfl, show X.R06_greatest 38 = 127 from rfl]; first | omega | (unfold sgn; split <;> omega)
  · simp [X.inst_form_allowed, alw]
theorem g44 : Good ⟨34304, 8, 39, 9, false⟩ (mk ⟨34304, 8, 39, 9, false⟩ false w) := by
  have e : mk ⟨34304, 8, 39, 9, false⟩ false w = ⟨39, false, (⟨0, 0, 0⟩ : M.Operand), (⟨0, 0, 0⟩ : M.Operand), 0, sgn (w % 256)⟩ := by unfold mk; rw [F9]
  rw [e]
  refine ⟨(by dsimp only; omega), (fun h => by cases h), .inr ⟨rfl, rfl⟩, .inr ⟨rfl, rfl⟩, (by dsimp only; omega), .inl rfl, ?_, ?_⟩
  · dsimp only; rw [show X.R06_least 39 = -128 from rfl, show X.R06_greatest 39 = 127 from rfl]; first | omega | (unfold sgn; split <;> omega)
  · simp [X.inst_form_allowed, alw]
theorem g45 : Good ⟨34560, 8, 40, 9, false⟩ (mk ⟨34560, 8, 40, 9, false⟩ false w) := by
  have e : mk ⟨34560, 8, 40, 9, false⟩ false w = ⟨40, false, (⟨0, 0, 0⟩ : M.Operand), (⟨0, 0, 0⟩ : M.Operand), 0, sgn (w % 256)⟩ := by unfold mk; rw [F9]
  rw [e]
  refine ⟨(by dsimp only; omega), (fun h => by cases h), .inr ⟨rfl, rfl⟩, .inr ⟨rfl, rfl⟩, (by dsimp only; omega), .inl rfl, ?_, ?_⟩
  · dsimp only; rw [show X.R06_least 40 = -128 from rfl, show X.R06_greatest 40 = 127 from rfl]; first | omega | (unfold sgn; split <;> omega)
  · simp [X.inst_form_allowed, alw]
theorem g46 : Good ⟨34816, 8, 45, 11, false⟩ (mk ⟨34816, 8, 45, 11, false⟩ false w) := by
  have e : mk ⟨34816, 8, 45, 11, false⟩ false w = ⟨45, false, (⟨0, 0, 0⟩ : M.Operand), (⟨0, 0, 0⟩ : M.Operand), 0, w % 256⟩ := by unfold mk; rw [F11]
  rw [e]
  refine ⟨(by dsimp only; omega), (fun h => by cases h), .inr ⟨rfl, rfl⟩, .inr ⟨rfl, rfl⟩, (by dsimp only; omega), .inl rfl, ?_, ?_⟩
  · dsimp only; rw [show X.R06_least 45 = 0 from rfl, show X.R06_greatest 45 = 255 from rfl]; first | omega | (unfold sgn; split <;> omega)
  · simp [X.inst_form_allowed, alw]
theorem g47 : Good ⟨35072, 8, 46, 11, false⟩ (mk ⟨35072, 8, 46, 11, false⟩ false w) := by
  have e : mk ⟨35072, 8, 46, 11, false⟩ false w = ⟨46, false, (⟨0, 0, 0⟩ : M.Operand), (⟨0, 0, 0⟩ : M.Operand), 0, w % 256⟩ := by unfold mk; rw [F11]
  rw [e]
  refine ⟨(by dsimp only; omega), (fun h => by cases h), .inr ⟨rfl, rfl⟩, .inr ⟨rfl, rfl⟩, (by dsimp only; omega), .inl rfl, ?_, ?_⟩
  · dsimp only; rw [show X.R06_least 46 = 0 from rfl, show X.R06_greatest 46 = 255 from rfl]; first | omega | (unfold sgn; split <;> omega)
  · simp [X.inst_form_allowed, alw]
theorem g48 : Good ⟨160, 4, 53, 12, false⟩ (mk ⟨160, 4, 53, 12, false⟩ false w) := by
  have e : mk ⟨160, 4, 53, 12, false⟩ false w = ⟨53, false, (⟨0, 0, 0⟩ : M.Operand), (⟨0, 0, 0⟩ : M.Operand), 0, w % 16⟩ := by unfold mk; rw [F12]
  rw [e]
  refine ⟨(by dsimp only; omega), (fun h => by cases h), .inr ⟨rfl, rfl⟩, .inr ⟨rfl, rfl⟩, (by dsimp only; omega), .inl rfl, ?_, ?_⟩
  · dsimp only; rw [show X.R06_least 53 = 0 from rfl, show X.R06_greatest 53 = 15 from rfl]; first | omega | (unfold sgn; split <;> omega)
  · simp [X.inst_form_allowed, alw]
theorem g49 : Good ⟨176, 4, 54, 12, false⟩ (mk ⟨176, 4, 54, 12, false⟩ false w) := by
  have e : mk ⟨176, 4, 54, 12, false⟩ false w = ⟨54, false, (⟨0, 0, 0⟩ : M.Operand), (⟨0, 0, 0⟩ : M.Operand), 0, w % 16⟩ := by unfold mk; rw [F12]
  rw [e]
  refine ⟨(by dsimp only; omega), (fun h => by cases h), .inr ⟨rfl, rfl⟩, .inr ⟨rfl, rfl⟩, (by dsimp only; omega), .inl rfl, ?_, ?_⟩
  · dsimp only; rw [show X.R06_least 54 = 0 from rfl, show X.R06_greatest 54 = 15 from rfl]; first | omega | (unfold sgn; split <;> omega)
  · simp [X.inst_form_allowed, alw]
theorem g50 : Good ⟨0, 0, 50, 0, false⟩ (mk ⟨0, 0, 50, 0, false⟩ false w) := by
  have e : mk ⟨0, 0, 50, 0, false⟩ false w = ⟨50, false, (⟨0, 0, 0⟩ : M.Operand), (⟨0, 0, 0⟩ : M.Operand), 0, 0⟩ := by unfold mk; rw [F0]
  rw [e]
  refine ⟨(by dsimp only; omega), (fun h => by cases h), .inr ⟨rfl, rfl⟩, .inr ⟨rfl, rfl⟩, (by dsimp only; omega), .inl rfl, ?_, ?_⟩
  · dsimp only; rw [show X.R06_least 50 = 0 from rfl, show X.R06_greatest 50 = 0 from rfl]; first | omega | (unfold sgn; split <;> omega)
  · simp [X.inst_form_allowed, alw]
theorem g51 : Good ⟨1, 0, 51, 0, false⟩ (mk ⟨1, 0, 51, 0, false⟩ false w) := by
  have e : mk ⟨1, 0, 51, 0, false⟩ false w = ⟨51, false, (⟨0, 0, 0⟩ : M.Operand), (⟨0, 0, 0⟩ : M.Operand), 0, 0⟩ := by unfold mk; rw [F0]
  rw [e]
  refine ⟨(by dsimp only; omega), (fun h => by cases h), .inr ⟨rfl, rfl⟩, .inr ⟨rfl, rfl⟩, (by dsimp only; omega), .inl rfl, ?_, ?_⟩
  · dsimp only; rw [show X.R06_least 51 = 0 from rfl, show X.R06_greatest 51 = 0 from rfl]; first | omega | (unfold sgn; split <;> omega)
  · simp [X.inst_form_allowed, alw]
theorem g52 : Good ⟨2, 0, 49, 0, false⟩ (mk ⟨2, 0, 49, 0, false⟩ false w) := by
  have e : mk ⟨2, 0, 49, 0, false⟩ false w = ⟨49, false, (⟨0, 0, 0⟩ : M.Operand), (⟨0, 0, 0⟩ : M.Operand), 0, 0⟩ := by unfold mk; rw [F0]
  rw [e]
  refine ⟨(by dsimp only; omega), (fun h => by cases h), .inr ⟨rfl, rfl⟩, .inr ⟨rfl, rfl⟩, (by dsimp only; omega), .inl rfl, ?_, ?_⟩
  · dsimp only; rw [show X.R06_least 49 = 0 from rfl, show X.R06_greatest 49 = 0 from rfl]; first | omega | (unfold sgn; split <;> omega)
  · simp [X.inst_form_allowed, alw]
theorem g53 : Good ⟨3, 0, 47, 0, false⟩ (mk ⟨3, 0, 47, 0, false⟩ false w) := by
  have e : mk ⟨3, 0, 47, 0, false⟩ false w = ⟨47, false, (⟨0, 0, 0⟩ : M.Operand), (⟨0, 0, 0⟩ : M.Operand), 0, 0⟩ := by unfold mk; rw [F0]
  rw [e]
  refine ⟨(by dsimp only; omega), (fun h => by cases h), .inr ⟨rfl, rfl⟩, .inr ⟨rfl, rfl⟩, (by dsimp only; omega), .inl rfl, ?_, ?_⟩
  · dsimp only; rw [show X.R06_least 47 = 0 from rfl, show X.R06_greatest 47 = 0 from rfl]; first | omega | (unfold sgn; split <;> omega)
  · simp [X.inst_form_allowed, alw]
theorem g54 : Good ⟨4, 0, 48, 0, false⟩ (mk ⟨4, 0, 48, 0, false⟩ false w) := by
  have e : mk ⟨4, 0, 48, 0, false⟩ false w = ⟨48, false, (⟨0, 0, 0⟩ : M.Operand), (⟨0, 0, 0⟩ : M.Operand), 0, 0⟩ := by unfold mk; rw [F0]
  rw [e]
  refine ⟨(by dsimp only; omega), (fun h => by cases h), .inr ⟨rfl, rfl⟩, .inr ⟨rfl, rfl⟩, (by dsimp only; omega), .inl rfl, ?_, ?_⟩
  · dsimp only; rw [show X.R06_least 48 = 0 from rfl, show X.R06_greatest 48 = 0 from rfl]; first | omega | (unfold sgn; split <;> omega)
  · simp [X.inst_form_allowed, alw]
theorem g55 : Good ⟨5, 0, 52, 0, false⟩ (mk ⟨5, 0, 52, 0, false⟩ false w) := by
  have e : mk ⟨5, 0, 52, 0, false⟩ false w = ⟨52, false, (⟨0, 0, 0⟩ : M.Operand), (⟨0, 0, 0⟩ : M.Operand), 0, 0⟩ := by unfold mk; rw [F0]
  rw [e]
  refine ⟨(by dsimp only; omega), (fun h => by cases h), .inr ⟨rfl, rfl⟩, .inr ⟨rfl, rfl⟩, (by dsimp only; omega), .inl rfl, ?_, ?_⟩
  · dsimp only; rw [show X.R06_least 52 = 0 from rfl, show X.R06_greatest 52 = 0 from rfl]; first | omega | (unfold sgn; split <;> omega)
  · simp [X.inst_form_allowed, alw]
def G (w : Int) (f : M.Inst_form) : Prop := ∀ b, (b = true → f.bytes = true) → Good f (mk f b w)
theorem g_all : ∀ f ∈ forms, G w f := by
  unfold forms
  exact List.forall_mem_cons.2 ⟨(fun b _ => g0), List.forall_mem_cons.2 ⟨(fun b _ => g1), List.forall_mem_cons.2 ⟨(fun b _ => g2), List.forall_mem_cons.2 ⟨(fun b _ => g3), List.forall_mem_cons.2 ⟨(fun b _ => g4), List.forall_mem_cons.2 ⟨(fun b hb => by cases b with | false => exact g5 | true => cases hb rfl), List.forall_mem_cons.2 ⟨(fun b hb => by cases b with | false => exact g6 | true => cases hb rfl), List.forall_mem_cons.2 ⟨(fun b hb => by cases b with | false => exact g7 | true => cases hb rfl), List.forall_mem_cons.2 ⟨(fun b hb => by cases b with | false => exact g8 | true => cases hb rfl), List.forall_mem_cons.2 ⟨(fun b hb => by cases b with | false => exact g9 | true => cases hb rfl), List.forall_mem_cons.2 ⟨(fun b hb => by cases b with | false => exact g10 | true => cases hb rfl), List.forall_mem_cons.2 ⟨(fun b _ => g11), List.forall_mem_cons.2 ⟨(fun b _ => g12), List.forall_mem_cons.2 ⟨(fun b _ => g13), List.forall_mem_cons.2 ⟨(fun b _ => g14), List.forall_mem_cons.2 ⟨(fun b _ => g15), List.forall_mem_cons.2 ⟨(fun b _ => g16), List.forall_mem_cons.2 ⟨(fun b _ => g17), List.forall_mem_cons.2 ⟨(fun b _ => g18), List.forall_mem_cons.2 ⟨(fun b _ => g19), List.forall_mem_cons.2 ⟨(fun b _ => g20), List.forall_mem_cons.2 ⟨(fun b _ => g21), List.forall_mem_cons.2 ⟨(fun b _ => g22), List.forall_mem_cons.2 ⟨(fun b hb => by cases b with | false => exact g23 | true => cases hb rfl), List.forall_mem_cons.2 ⟨(fun b hb => by cases b with | false => exact g24 | true => cases hb rfl), List.forall_mem_cons.2 ⟨(fun b hb => by cases b with | false => exact g25 | true => cases hb rfl), List.forall_mem_cons.2 ⟨(fun b hb => by cases b with | false => exact g26 | true => cases hb rfl), List.forall_mem_cons.2 ⟨(fun b hb => by cases b with | false => exact g27 | true => cases hb rfl), List.forall_mem_cons.2 ⟨(fun b hb => by cases b with | false => exact g28 | true => cases hb rfl), List.forall_mem_cons.2 ⟨(fun b hb => by cases b with | false => exact g29 | true => cases hb rfl), List.forall_mem_cons.2 ⟨(fun b hb => by cases b with | false => exact g30 | true => cases hb rfl), List.forall_mem_cons.2 ⟨(fun b hb => by cases b with | false => exact g31 | true => cases hb rfl), List.forall_mem_cons.2 ⟨(fun b hb => by cases b with | false => exact g32 | true => cases hb rfl), List.forall_mem_cons.2 ⟨(fun b hb => by cases b with | false => exact g33 | true => cases hb rfl), List.forall_mem_cons.2 ⟨(fun b hb => by cases b with | false => exact g34 | true => cases hb rfl), List.forall_mem_cons.2 ⟨(fun b hb => by cases b with | false => exact g35 | true => cases hb rfl), List.forall_mem_cons.2 ⟨(fun b hb => by cases b with | false => exact g36 | true => cases hb rfl), List.forall_mem_cons.2 ⟨(fun b hb => by cases b with | false => exact g37 | true => cases hb rfl), List.forall_mem_cons.2 ⟨(fun b hb => by cases b with | false => exact g38 | true => cases hb rfl), List.forall_mem_cons.2 ⟨(fun b hb => by cases b with | false => exact g39 | true => cases hb rfl), List.forall_mem_cons.2 ⟨(fun b hb => by cases b with | false => exact g40 | true => cases hb rfl), List.forall_mem_cons.2 ⟨(fun b hb => by cases b with | false => exact g41 | true => cases hb rfl), List.forall_mem_cons.2 ⟨(fun b hb => by cases b with | false => exact g42 | true => cases hb rfl), List.forall_mem_cons.2 ⟨(fun b hb => by cases b with | false => exact g43 | true => cases hb rfl), List.forall_mem_cons.2 ⟨(fun b hb => by cases b with | false => exact g44 | true => cases hb rfl), List.forall_mem_cons.2 ⟨(fun b hb => by cases b with | false => exact g45 | true => cases hb rfl), List.forall_mem_cons.2 ⟨(fun b hb => by cases b with | false => exact g46 | true => cases hb rfl), List.forall_mem_cons.2 ⟨(fun b hb => by cases b with | false => exact g47 | true => cases hb rfl), List.forall_mem_cons.2 ⟨(fun b hb => by cases b with | false => exact g48 | true => cases hb rfl), List.forall_mem_cons.2 ⟨(fun b hb => by cases b with | false => exact g49 | true => cases hb rfl), List.forall_mem_cons.2 ⟨(fun b hb => by cases b with | false => exact g50 | true => cases hb rfl), List.forall_mem_cons.2 ⟨(fun b hb => by cases b with | false => exact g51 | true => cases hb rfl), List.forall_mem_cons.2 ⟨(fun b hb => by cases b with | false => exact g52 | true => cases hb rfl), List.forall_mem_cons.2 ⟨(fun b hb => by cases b with | false => exact g53 | true => cases hb rfl), List.forall_mem_cons.2 ⟨(fun b hb => by cases b with | false => exact g54 | true => cases hb rfl), List.forall_mem_cons.2 ⟨(fun b hb => by cases b with | false => exact g55 | true => cases hb rfl), fun _ h => absurd h List.not_mem_nil⟩⟩⟩⟩⟩⟩⟩⟩⟩⟩⟩⟩⟩⟩⟩⟩⟩⟩⟩⟩⟩⟩⟩⟩⟩⟩⟩⟩⟩⟩⟩⟩⟩⟩⟩⟩⟩⟩⟩⟩⟩⟩⟩⟩⟩⟩⟩⟩⟩⟩⟩⟩⟩⟩⟩⟩
theorem good_of {f : M.Inst_form} {b : Bool} (h : search w forms = some (f, b)) : Good f (mk f b w) := by
  obtain ⟨hm, hc⟩ := search_some h
  refine g_all f hm b fun hb => ?_
  rcases hc with ⟨rfl, _⟩ | ⟨_, hb, _⟩
  · cases hb
  · exact hb
end
end PL
end Go.Proofs.Ytnonimnhninafaa.Ab

/- What the reference's Valid says of an instruction of a form. -/
namespace Go.Proofs.Ytnonimnhninafaa.Ab
open Go
set_option linter.unusedVariables false
set_option linter.unusedSimpArgs false
namespace PL

theorem ext_eq (o : M.Operand) : X.operand_Extended o = X.R05_Extended o := by
  unfold X.operand_Extended X.R05_Extended X.operand_mode X.operand_reg X.R05_Mode X.R05_Register
  simp only [mask3]
  have h : o.Mode % 8 = 0 ∨ o.Mode % 8 = 1 ∨ o.Mode % 8 = 2 ∨ o.Mode % 8 = 3 ∨ o.Mode % 8 = 4 ∨ o.Mode % 8 = 5 ∨ o.Mode % 8 = 6 ∨ o.Mode % 8 = 7 := by omega
  rcases h with h | h | h | h | h | h | h | h <;> rw [h] <;> simp

def Ex (o s : M.Operand) : Prop := s.Mode = o.Mode ∧ s.Reg = o.Reg ∧ 0 ≤ s.Ext ∧ s.Ext ≤ 65535 ∧ (s.Ext = 0 ∨ X.R05_Extended o = true)

theorem ext_same {o s : M.Operand} (k : Ex o s) : X.R05_Extended s = X.R05_Extended o := by
  unfold X.R05_Extended X.R05_Mode X.R05_Register
  rw [k.1, k.2.1]

theorem valid05 {o s : M.Operand} (h : opd o) (k : Ex o s) : X.R05_Valid s = true := by
  have hx := ext_same k
  obtain ⟨h1, h2, h3, h4, h5⟩ := h
  obtain ⟨k1, k2, k3, k4, k5⟩ := k
  have e1 : decide (s.Mode < 0) = false := by simp; omega
  have e2 : decide (s.Mode > 7) = false := by simp; omega
  have e3 : decide (s.Reg < 0) = false := by simp; omega
  have e4 : decide (s.Reg > 7) = false := by simp; omega
  have e5 : decide (s.Ext < 0) = false := by simp; omega
  have e6 : decide (s.Ext > 65535) = false := by simp; omega
  unfold X.R05_Valid
  simp only [e1, e2, e3, e4, e5, e6, cond_false]
  rcases k5 with k | k
  · simp [k]
  · rw [hx, k]; cases (s.Ext == 0) <;> rfl

theorem zero_ext {s : M.Operand} (k : Ex ⟨0, 0, 0⟩ s) : s = ⟨0, 0, 0⟩ := by
  obtain ⟨k1, k2, k3, k4, k5⟩ := k
  have z : X.R05_Extended ⟨0, 0, 0⟩ = false := by decide
  rw [z] at k5
  cases s
  simp_all

theorem vz : vEqB (Ty.st SId.sOperand) (⟨0, 0, 0⟩ : M.Operand) (⟨0, 0, 0⟩ : M.Operand) = true := by decide

theorem opd_part {h : Bool} {o s : M.Operand} (g : h = true ∧ opd o ∨ h = false ∧ o = ⟨0, 0, 0⟩) (k : Ex o s) : (bif h then (bif (!(X.R05_Valid s)) then true else (bif (!h) then (!(vEqB (Ty.st SId.sOperand) s (⟨(0 : Int), (0 : Int), (0 : Int)⟩ : M.Operand))) else false)) else (bif (!h) then (!(vEqB (Ty.st SId.sOperand) s (⟨(0 : Int), (0 : Int), (0 : Int)⟩ : M.Operand))) else false)) = false := by
  rcases g with ⟨rfl, g⟩ | ⟨rfl, rfl⟩
  · rw [valid05 g k]; rfl
  · rw [zero_ext k, vz]; rfl

theorem valid_good {f : M.Inst_form} {i : M.Inst} (g : Good f i) {s d : M.Operand} (hs : Ex i.Src s) (hd : Ex i.Dst d) : X.R06_Valid ⟨i.Op, i.Byte, s, d, i.Reg, i.Num⟩ = alw i := by
  obtain ⟨⟨o1, o2⟩, gb, gs, gd, ⟨r1, r2⟩, g2, ⟨n1, n2⟩, _⟩ := g
  have e1 : decide (i.Op < 1) = false := by simp; omega
  have e2 : decide (i.Op > 56) = false := by simp; omega
  have e3 : (bif i.Byte then (!(X.R06_Hasbyte i.Op)) else false) = false := by
    cases h : i.Byte with
    | false => rfl
    | true => rw [gb h]; rfl
  have e4 : decide (i.Reg < 0) = false := by simp; omega
  have e5 : decide (i.Reg > 7) = false := by simp; omega
  have e6 : decide (i.Num < X.R06_least i.Op) = false := by simp; omega
  have e7 : decide (i.Num > X.R06_greatest i.Op) = false := by simp; omega
  have e8 : (bif (i.Reg != (0 : Int)) then (bif (!(X.R06_Hasreg i.Op)) then true else false) else false) = false := by
    rcases g2 with h | h
    · rw [h]; rfl
    · rw [h]; cases (i.Reg != (0 : Int)) <;> rfl
  have hm : d.Mode = i.Dst.Mode := hd.1
  unfold X.R06_Valid alw
  simp only [e1, e2, e3, e4, e5, e6, e7, e8, opd_part gs hs, opd_part gd hd, cond_false, hm]
  cases h9 : (i.Op == 9) <;> cases h41 : (i.Op == 41) <;> cases h42 : (i.Op == 42) <;> simp_all
end PL
end Go.Proofs.Ytnonimnhninafaa.Ab

/- Decode agrees with the reference. -/
namespace Go.Proofs.Ytnonimnhninafaa.Ab
open Go
set_option linter.unusedVariables false
set_option linter.unusedSimpArgs false
namespace PL
set_option maxRecDepth 100000

theorem isw_eq (w : Int) : (bitOf BinOp.and IntKind.i64 w (65535 : Int) != w) = !(X.R06_Isword w) := by
  rw [mask16]
  unfold X.R06_Isword
  by_cases h : 0 ≤ w ∧ w < 65536
  · have e : w % 65536 = w := by omega
    rw [e]
    simp [h.1, h.2]
  · have e : (w % 65536 != w) = true := by simp; omega
    rw [e]
    by_cases h0 : 0 ≤ w
    · have : ¬ w < 65536 := fun h1 => h ⟨h0, h1⟩
      simp [h0, this]
    · simp [h0]
theorem isw_iff {w : Int} (h : X.R06_Isword w = true) : 0 ≤ w ∧ w < 65536 := by
  unfold X.R06_Isword at h
  by_cases h0 : w ≥ 0
  · simp only [h0, decide_true, cond_true, decide_eq_true_eq] at h; exact ⟨h0, h⟩
  · simp [h0] at h

theorem ex_self {h : Bool} {o : M.Operand} (g : h = true ∧ opd o ∨ h = false ∧ o = ⟨0, 0, 0⟩) : Ex o o := by
  rcases g with ⟨_, _, _, _, _, h⟩ | ⟨_, rfl⟩
  · exact ⟨rfl, rfl, by omega, by omega, .inl h⟩
  · exact ⟨rfl, rfl, by decide, by decide, .inl rfl⟩
theorem ex_new {o : M.Operand} {x : Int} (h : X.R05_Extended o = true) (hx : X.R06_Isword x = true) : Ex o ⟨o.Mode, o.Reg, x⟩ := by
  obtain ⟨h0, h1⟩ := isw_iff hx
  exact ⟨rfl, rfl, h0, by show x ≤ 65535; omega, .inr h⟩
theorem part_ext {h : Bool} {o : M.Operand} (g : h = true ∧ opd o ∨ h = false ∧ o = ⟨0, 0, 0⟩) : (bif h then X.R05_Extended o else false) = X.R05_Extended o := by
  rcases g with ⟨rfl, _⟩ | ⟨rfl, rfl⟩ <;> rfl

theorem decode_eq (a : List Int) : ∃ r, X.inst_Decode a = some r ∧ X.R06_Decode a = some r := by
  cases a with
  | nil => exact ⟨_, rfl, rfl⟩
  | cons w l =>
    unfold X.inst_Decode X.R06_Decode
    generalize h0 : List.getD (w :: l) (0 : Nat) (dflt (Ty.int IntKind.i64)) = w'
    obtain rfl : w = w' := h0
    rw [show IntKind.wrap IntKind.i64 ((1 : Int) + (1 : Int)) = 2 from rfl]
    generalize List.getD (w :: l) (1 : Nat) (dflt (Ty.int IntKind.i64)) = x
    generalize List.getD (w :: l) (Int.toNat 2) (dflt (Ty.int IntKind.i64)) = y
    have hn : 1 ≤ (Nat.cast (List.length (w :: l)) : Int) := by rw [List.length_cons]; omega
    generalize (Nat.cast (List.length (w :: l)) : Int) = n at hn ⊢
    have e0 : (n == (0 : Int)) = false := by simp; omega
    have e1 : decide ((0 : Int) < n) = true := by simp; omega
    have e2 : decide ((0 : Int) ≤ (0 : Int)) = true := by decide
    have e3 : decide ((0 : Int) ≤ (1 : Int)) = true := by decide
    have e4 : decide ((0 : Int) ≤ (2 : Int)) = true := by decide
    simp only [e0, e1, e2, e3, e4, isw_eq, cond_false, cond_true, Bool.and_self, Bool.true_and]
    have g1 : decide ((1 : Int) ≥ n) = !decide ((1 : Int) < n) := by rw [← decide_not]; exact decide_eq_decide.2 (by omega)
    have g2 : decide ((2 : Int) ≥ n) = !decide ((2 : Int) < n) := by rw [← decide_not]; exact decide_eq_decide.2 (by omega)
    simp only [g1, g2]
    generalize decide ((1 : Int) < n) = n1
    generalize decide ((2 : Int) < n) = n2
    cases hw : X.R06_Isword w with
    | false => exact ⟨_, rfl, rfl⟩
    | true =>
      obtain ⟨w0, w1⟩ := isw_iff hw
      rw [formOf_eq w]
      cases hs : search w forms with
      | none =>
        rw [shape_none w0 w1 hs]
        exact ⟨_, rfl, rfl⟩
      | some p =>
        obtain ⟨f, b⟩ := p
        rw [shape_hit w0 w1 hs]
        have g := good_of (w := w) hs
        generalize hi : mk f b w = i at g ⊢
        have f1 : (X.inst_form_fields f w).Op = i.Op := by rw [← hi]; rfl
        have f2 : (X.inst_form_fields f w).Src = i.Src := by rw [← hi]; rfl
        have f3 : (X.inst_form_fields f w).Dst = i.Dst := by rw [← hi]; rfl
        have f4 : (X.inst_form_fields f w).Reg = i.Reg := by rw [← hi]; rfl
        have f5 : (X.inst_form_fields f w).Num = i.Num := by rw [← hi]; rfl
        have fb : b = i.Byte := by rw [← hi]; rfl
        have al : X.inst_form_allowed f ⟨i.Op, i.Byte, i.Src, i.Dst, i.Reg, i.Num⟩ = alw i := g.al
        have v00 : X.R06_Valid i = alw i := valid_good g (ex_self g.src) (ex_self g.dst)
        simp only [f1, f2, f3, f4, f5, fb, al, ext_eq, Bool.not_true, cond_false, part_ext g.src, part_ext g.dst]
        cases hS : X.R05_Extended i.Src with
        | false =>
          cases hD : X.R05_Extended i.Dst with
          | false =>
            rw [v00]
            cases alw i <;> exact ⟨_, rfl, rfl⟩
          | true =>
            cases hx : X.R06_Isword x with
            | false => cases alw i <;> cases n1 <;> exact ⟨_, rfl, rfl⟩
            | true =>
              have v : X.R06_Valid ⟨i.Op, i.Byte, i.Src, ⟨i.Dst.Mode, i.Dst.Reg, x⟩, i.Reg, i.Num⟩ = alw i := valid_good g (ex_self g.src) (ex_new hD hx)
              rw [v]
              cases alw i <;> cases n1 <;> exact ⟨_, rfl, rfl⟩
        | true =>
          cases hx : X.R06_Isword x with
          | false => cases alw i <;> cases n1 <;> exact ⟨_, rfl, rfl⟩
          | true =>
            cases hD : X.R05_Extended i.Dst with
            | false =>
              have v : X.R06_Valid ⟨i.Op, i.Byte, ⟨i.Src.Mode, i.Src.Reg, x⟩, i.Dst, i.Reg, i.Num⟩ = alw i := valid_good g (ex_new hS hx) (ex_self g.dst)
              rw [v]
              cases alw i <;> cases n1 <;> exact ⟨_, rfl, rfl⟩
            | true =>
              cases hy : X.R06_Isword y with
              | false => cases alw i <;> cases n1 <;> cases n2 <;> exact ⟨_, rfl, rfl⟩
              | true =>
                have v : X.R06_Valid ⟨i.Op, i.Byte, ⟨i.Src.Mode, i.Src.Reg, x⟩, ⟨i.Dst.Mode, i.Dst.Reg, y⟩, i.Reg, i.Num⟩ = alw i := valid_good g (ex_new hS hx) (ex_new hD hy)
                rw [v]
                cases alw i <;> cases n1 <;> cases n2 <;> exact ⟨_, rfl, rfl⟩
end PL
end Go.Proofs.Ytnonimnhninafaa.Ab

/- Numbers and lists for the other Inst laws. -/
namespace Go.Proofs.Ytnonimnhninafaa.Ab
open Go
set_option linter.unusedVariables false
set_option linter.unusedSimpArgs false
namespace PL
set_option maxRecDepth 100000

theorem or_add (k : Nat) {x y : Int} (hx0 : 0 ≤ x) (hx1 : x < 1099511627776) (hd : x % ((2 ^ k : Nat) : Int) = 0) (hy0 : 0 ≤ y) (hy1 : y < ((2 ^ k : Nat) : Int)) (hy2 : y < 1099511627776) : bitOf BinOp.or IntKind.i64 x y = x + y := by
  obtain ⟨a, rfl⟩ : ∃ a : Nat, x = a := ⟨x.toNat, by omega⟩
  obtain ⟨b, rfl⟩ : ∃ b : Nat, y = b := ⟨y.toNat, by omega⟩
  have hb : b < 2 ^ k := by exact_mod_cast hy1
  have ha : a % 2 ^ k = 0 := by exact_mod_cast hd
  have e : (BitVec.ofInt IntKind.i64.bits (a : Int) ||| BitVec.ofInt IntKind.i64.bits (b : Int)).toNat = a + b := by
    rw [BitVec.toNat_or, BitVec.toNat_ofInt, BitVec.toNat_ofInt]
    have h1 : ((a : Int) % ((2 ^ IntKind.i64.bits : Nat) : Int)).toNat = a := by
      rw [Int.emod_eq_of_lt (by omega) (by simp only [IntKind.bits]; omega)]; simp
    have h2 : ((b : Int) % ((2 ^ IntKind.i64.bits : Nat) : Int)).toNat = b := by
      rw [Int.emod_eq_of_lt (by omega) (by simp only [IntKind.bits]; omega)]; simp
    rw [h1, h2]
    have h3 : 2 ^ k * (a / 2 ^ k) = a := by
      have := Nat.div_add_mod a (2 ^ k)
      omega
    have h4 := Nat.two_pow_add_eq_or_of_lt hb (a / 2 ^ k)
    rw [h3] at h4
    exact h4.symm
  show IntKind.i64.wrap _ = _
  rw [e]
  have : ((a + b : Nat) : Int) = (a : Int) + (b : Int) := by omega
  rw [this]
  exact wrap64 (by omega) (by omega)

/-- Two lists of numbers, compared one by one. -/
theorem same_loop {a b : List Int} (hl : a.length = b.length) (hm : a.length < 4611686018427387904) : ∀ (k i fuel : Nat), k + i = a.length → k < fuel →
    iterO X.R03_SameInts_b4 fuel ((a, (b, ((i : Int), ()))), ()) = some (bif decide (a.drop i = b.drop i) then .brk ((), ()) else .ret ((false, ()), ()))
  | 0, i, fuel + 1, hk, _ => by
    have e1 : a.drop i = [] := List.drop_eq_nil_of_le (by omega)
    have e2 : b.drop i = [] := List.drop_eq_nil_of_le (by omega)
    rw [e1, e2]
    refine it_brk ?_
    unfold X.R03_SameInts_b4
    have h1 : decide ((i : Int) < (Nat.cast (List.length a) : Int)) = false := by simp; omega
    simp only [h1, cond_false]
  | k + 1, i, fuel + 1, hk, hf => by
    have ih := same_loop hl hm k (i + 1) fuel (by omega) (by omega)
    have hi : i < a.length := by omega
    have hj : i < b.length := by omega
    have d1 : a.drop i = a[i] :: a.drop (i + 1) := List.drop_eq_getElem_cons hi
    have d2 : b.drop i = b[i] :: b.drop (i + 1) := List.drop_eq_getElem_cons hj
    have g1 : List.getD a (Int.toNat (i : Int)) (dflt (Ty.int IntKind.i64)) = a[i] := by rw [Int.toNat_natCast]; exact getD_of (List.getElem?_eq_getElem hi)
    have g2 : List.getD b (Int.toNat (i : Int)) (dflt (Ty.int IntKind.i64)) = b[i] := by rw [Int.toNat_natCast]; exact getD_of (List.getElem?_eq_getElem hj)
    have h1 : decide ((i : Int) < (Nat.cast (List.length a) : Int)) = true := by simp; omega
    have h2 : decide ((i : Int) < (Nat.cast (List.length b) : Int)) = true := by simp; omega
    have h3 : decide ((0 : Int) ≤ (i : Int)) = true := by simp
    have hw : IntKind.wrap IntKind.i64 ((i : Int) + 1) = ((i + 1 : Nat) : Int) := by rw [wrap64 (by omega) (by omega)]; rfl
    have hb : X.R03_SameInts_b4 ((a, (b, ((i : Int), ()))), ()) = (bif a[i] != b[i] then some (.ret ((false, ()), ())) else some (.next ((a, (b, (((i + 1 : Nat) : Int), ()))), ()))) := by
      unfold X.R03_SameInts_b4
      simp only [h1, h2, h3, hw, g1, g2, cond_true, Bool.and_self]
    rw [d1, d2]
    by_cases he : a[i] = b[i]
    · have hn : (a[i] != b[i]) = false := by simp [he]
      rw [hn] at hb
      rw [it_next hb, ih]
      have hc : (a.drop (i + 1) = b.drop (i + 1)) ↔ (a[i] :: a.drop (i + 1) = b[i] :: b.drop (i + 1)) := ⟨fun h => by rw [he, h], fun h => (List.cons.inj h).2⟩
      rw [decide_eq_decide.2 hc]
    · have hn : (a[i] != b[i]) = true := by simp [he]
      rw [hn] at hb
      rw [it_ret hb, decide_eq_false (fun h => he (List.cons.inj h).1)]
      rfl

theorem same_ints {a b : List Int} (hm : a.length < 4611686018427387904) : X.R03_SameInts a b = some (decide (a = b), ()) := by
  unfold X.R03_SameInts X.R03_SameInts_l4
  by_cases hl : a.length = b.length
  · have e : ((Nat.cast (List.length a) : Int) != (Nat.cast (List.length b) : Int)) = false := by simp [hl]
    rw [e]
    have := same_loop hl hm a.length 0 (100 + a.length + b.length + Int.toNat 0) (by omega) (by omega)
    simp only [cond_false]
    rw [show ((a, (b, ((0 : Int), ()))), ()) = ((a, (b, (((0 : Nat) : Int), ()))), ()) from rfl, this, List.drop_zero, List.drop_zero]
    by_cases h : a = b
    · simp [h]
    · simp [h]
  · have e : ((Nat.cast (List.length a) : Int) != (Nat.cast (List.length b) : Int)) = true := by simp; omega
    rw [e]
    have : ¬ a = b := fun h => hl (by rw [h])
    simp [this]

theorem valid_op (o : M.Operand) : X.operand_Valid o = X.R05_Valid o := by
  unfold X.operand_Valid X.R05_Valid X.operand_mode X.operand_reg
  rw [mask3, mask3, mask16, ext_eq]
  by_cases h1 : 0 ≤ o.Mode ∧ o.Mode ≤ 7
  · by_cases h2 : 0 ≤ o.Reg ∧ o.Reg ≤ 7
    · by_cases h3 : 0 ≤ o.Ext ∧ o.Ext ≤ 65535
      · have a1 : o.Mode % 8 = o.Mode := by omega
        have a2 : o.Reg % 8 = o.Reg := by omega
        have a3 : o.Ext % 65536 = o.Ext := by omega
        have e1 : decide (o.Mode < 0) = false := by simp; omega
        have e2 : decide (o.Mode > 7) = false := by simp; omega
        have e3 : decide (o.Reg < 0) = false := by simp; omega
        have e4 : decide (o.Reg > 7) = false := by simp; omega
        have e5 : decide (o.Ext < 0) = false := by simp; omega
        have e6 : decide (o.Ext > 65535) = false := by simp; omega
        rw [a1, a2, a3, e1, e2, e3, e4, e5, e6]
        simp only [beq_self_eq_true, cond_true, cond_false]
        cases X.R05_Extended o <;> cases (o.Ext == 0) <;> rfl
      · have a3 : (o.Ext % 65536 == o.Ext) = false := by simp; omega
        rw [a3]
        by_cases h5 : o.Ext < 0
        · simp [h5]
        · have h6 : o.Ext > 65535 := by omega
          simp [h6]
    · have a2 : (o.Reg == o.Reg % 8) = false := by simp; omega
      rw [a2]
      by_cases h5 : o.Reg < 0
      · simp [h5]
      · have h6 : o.Reg > 7 := by omega
        simp [h6]
  · have a1 : (o.Mode == o.Mode % 8) = false := by simp; omega
    rw [a1]
    by_cases h5 : o.Mode < 0
    · simp [h5]
    · have h6 : o.Mode > 7 := by omega
      simp [h6]
end PL
end Go.Proofs.Ytnonimnhninafaa.Ab

/- The words of an instruction: the loop as a search, and what valid instructions are. -/
namespace Go.Proofs.Ytnonimnhninafaa.Ab
open Go
set_option linter.unusedVariables false
set_option linter.unusedSimpArgs false
namespace PL
set_option maxRecDepth 100000

def byOp (o : Int) : List M.Inst_form → Option M.Inst_form
  | [] => none
  | f :: fs => bif f.op != o then byOp o fs else some f

theorem byOp_some {o : Int} : ∀ {fs : List M.Inst_form} {f : M.Inst_form}, byOp o fs = some f → f ∈ fs ∧ f.op = o
  | [], f, h => by cases h
  | g :: fs, f, h => by
    unfold byOp at h
    cases h1 : (g.op != o) with
    | true =>
      rw [h1] at h
      obtain ⟨k1, k2⟩ := byOp_some (fs := fs) h
      exact ⟨List.mem_cons_of_mem _ k1, k2⟩
    | false =>
      rw [h1] at h
      simp only [cond_false, Option.some.injEq] at h
      subst h
      exact ⟨by simp, by simpa using h1⟩

def exs (o : M.Operand) : List Int := bif X.R05_Extended o then [o.Ext] else []
def wl (f : M.Inst_form) (i : M.Inst) : List Int := [bitOf BinOp.and IntKind.i64 (X.inst_form_word f i) 65535] ++ exs i.Src ++ exs i.Dst
def badf (f : M.Inst_form) (i : M.Inst) : Bool := (i.Byte && !f.bytes) || (!X.R05_Valid i.Src || (!X.R05_Valid i.Dst || (bitOf BinOp.and IntKind.i64 i.Reg 7 != i.Reg)))
def wbody (f : M.Inst_form) (i : M.Inst) : Option (List Int × Bool × Unit) :=
  bif badf f i then some ([], false, ()) else
    match X.inst_Decode (wl f i) with
    | some y => some (wl f i, (y.2.1 == ((wl f i).length : Int)) && vEqB (Ty.st SId.sInst) i y.1, ())
    | none => none

theorem and_bif (a b : Bool) : (a && b) = bif a then b else false := by cases a <;> rfl

theorem wstep {i : M.Inst} {k : Nat} (hk : k < 56) {f : M.Inst_form} (hf : forms[k]? = some f) :
    X.inst_words_b2 ((X.inst_forms, ((k : Int), ())), (i, ())) =
      (bif f.op != i.Op then some (.next ((X.inst_forms, (((k + 1 : Nat) : Int), ())), (i, ()))) else match wbody f i with
        | some r => some (.ret ((r.1, (r.2.1, ())), ()))
        | none => none) := by
  have hg : List.getD (Vector.toList X.inst_forms) (Int.toNat (k : Int)) (dflt (Ty.st SId.sInst_form)) = f := by
    rw [forms_eq, Int.toNat_natCast]; exact getD_of hf
  have hw : IntKind.wrap IntKind.i64 ((k : Int) + 1) = ((k + 1 : Nat) : Int) := by rw [wrap64 (by omega) (by omega)]; rfl
  have h1 : decide ((k : Int) < 56) = true := by simp; omega
  have h2 : (decide ((0 : Int) ≤ (k : Int)) && decide ((k : Int) < (Nat.cast 56 : Int))) = true := by simp; omega
  unfold X.inst_words_b2
  simp only [hg, hw, h1, h2, cond_true, ext_eq, valid_op]
  cases hop : (f.op != i.Op) with
  | true => rfl
  | false =>
    simp only [cond_false]
    unfold wbody
    have hb : badf f i = (bif i.Byte then (bif (!f.bytes) then true else (bif (!(X.R05_Valid i.Src)) then true else (bif (!(X.R05_Valid i.Dst)) then true else ((bitOf BinOp.and IntKind.i64 i.Reg (7 : Int)) != i.Reg)))) else (bif (!(X.R05_Valid i.Src)) then true else (bif (!(X.R05_Valid i.Dst)) then true else ((bitOf BinOp.and IntKind.i64 i.Reg (7 : Int)) != i.Reg)))) := by
      unfold badf
      cases i.Byte <;> cases f.bytes <;> cases X.R05_Valid i.Src <;> cases X.R05_Valid i.Dst <;> rfl
    rw [← hb]
    cases badf f i with
    | true => rfl
    | false =>
      simp only [cond_false]
      unfold wl exs
      cases X.R05_Extended i.Src <;> cases X.R05_Extended i.Dst <;> simp only [cond_true, cond_false, List.append_nil, and_bif]
      · generalize X.inst_Decode _ = d
        cases d with
        | none => rfl
        | some y => 
          simp only [List.length_cons, List.length_nil]
          cases (y.2.1 == (Nat.cast (0 + 1) : Int)) <;> rfl
      · have e : ∀ a b : Int, HAppend.hAppend [a] [b] = [a, b] := fun _ _ => rfl
        simp only [e]
        generalize X.inst_Decode _ = d
        cases d with
        | none => rfl
        | some y => 
          simp only [List.length_cons, List.length_nil, Nat.zero_add, show 1 + 1 = 2 from rfl]
          cases (y.2.1 == (Nat.cast 2 : Int)) <;> rfl
      · have e : ∀ a b : Int, HAppend.hAppend [a] [b] = [a, b] := fun _ _ => rfl
        simp only [e]
        generalize X.inst_Decode _ = d
        cases d with
        | none => rfl
        | some y => 
          simp only [List.length_cons, List.length_nil, Nat.zero_add, show 1 + 1 = 2 from rfl]
          cases (y.2.1 == (Nat.cast 2 : Int)) <;> rfl
      · have e : ∀ a b c : Int, HAppend.hAppend (HAppend.hAppend [a] [b]) [c] = [a, b, c] := fun _ _ _ => rfl
        simp only [e]
        generalize X.inst_Decode _ = d
        cases d with
        | none => rfl
        | some y => 
          simp only [List.length_cons, List.length_nil, Nat.zero_add, show 1 + 1 = 2 from rfl, show 2 + 1 = 3 from rfl]
          cases (y.2.1 == (Nat.cast 3 : Int)) <;> rfl

theorem wstop {i : M.Inst} : X.inst_words_b2 ((X.inst_forms, (((56 : Nat) : Int), ())), (i, ())) = some (.brk ((), ())) := by
  unfold X.inst_words_b2
  have h1 : decide (((56 : Nat) : Int) < 56) = false := by decide
  simp only [h1, cond_false]

theorem wloop {i : M.Inst} : ∀ (k n fuel : Nat), k + n = 56 → k < fuel → iterO X.inst_words_b2 fuel ((X.inst_forms, ((n : Int), ())), (i, ())) =
    (match byOp i.Op (forms.drop n) with
      | some f => match wbody f i with
        | some r => some (.ret ((r.1, (r.2.1, ())), ()))
        | none => none
      | none => some (.brk ((), ())))
  | 0, n, fuel + 1, hk, _ => by
    obtain rfl : n = 56 := by omega
    have e : forms.drop 56 = [] := by rfl
    rw [e]
    exact it_brk wstop
  | k + 1, n, fuel + 1, hk, hl => by
    have hi : n < 56 := by omega
    have hlen : forms.length = 56 := rfl
    obtain ⟨f, hf⟩ : ∃ f, forms[n]? = some f := ⟨forms[n]'(by omega), by simp⟩
    have hd : forms.drop n = f :: forms.drop (n + 1) := by
      rw [List.drop_eq_getElem_cons (by omega)]
      congr 1
      exact Option.some.inj ((List.getElem?_eq_getElem (by omega)).symm.trans hf)
    have ih := wloop (i := i) k (n + 1) fuel (by omega) (by omega)
    rw [hd]
    have hs := wstep (i := i) hi hf
    unfold byOp
    cases h1 : (f.op != i.Op) with
    | true => rw [h1] at hs; exact (it_next hs).trans ih
    | false =>
      rw [h1] at hs
      simp only [cond_false] at hs ⊢
      cases hb : wbody f i with
      | none => rw [hb] at hs; simp only [iterO, hs]
      | some r => rw [hb] at hs; exact it_ret hs

theorem words_eq (i : M.Inst) : X.inst_words i = (match byOp i.Op forms with
    | some f => wbody f i
    | none => some ([], false, ())) := by
  unfold X.inst_words X.inst_words_l2
  have := wloop (i := i) 56 0 (100 + Int.toNat 0) rfl (by omega)
  have e : ((X.inst_forms, ((0 : Int), ())), (i, ())) = (((X.inst_forms, (((0 : Nat) : Int), ())), (i, ())) : (((Vector M.Inst_form 56) × Int × Unit) × (M.Inst × Unit))) := rfl
  simp only [e, this, List.drop_zero]
  cases byOp i.Op forms with
  | none => rfl
  | some f =>
    simp only
    cases wbody f i with
    | none => rfl
    | some r => rfl

theorem bif_or (a b : Bool) : (bif a then true else b) = (a || b) := by cases a <;> rfl
theorem bif_and (a b : Bool) : (bif a then b else false) = (a && b) := by cases a <;> rfl
theorem bif_nand (a b : Bool) : (bif a then false else b) = (!a && b) := by cases a <;> rfl

structure OV (o : M.Operand) : Prop where
  mode : 0 ≤ o.Mode ∧ o.Mode ≤ 7
  reg : 0 ≤ o.Reg ∧ o.Reg ≤ 7
  ext : 0 ≤ o.Ext ∧ o.Ext ≤ 65535
  no : o.Ext = 0 ∨ X.R05_Extended o = true

theorem ov_of {o : M.Operand} (h : X.R05_Valid o = true) : OV o := by
  unfold X.R05_Valid at h
  simp only [bif_or, bif_nand, Bool.and_eq_true, Bool.not_eq_true', Bool.or_eq_false_iff, decide_eq_false_iff_not, Bool.or_eq_true, beq_iff_eq] at h
  obtain ⟨⟨h1, h2, h3, h4, h5, h6⟩, h7⟩ := h
  exact ⟨by omega, by omega, by omega, h7⟩

theorem vEqB_true {c : Ty} {x y : den c} (h : vEqB c x y = true) : x = y := by
  unfold vEqB at h
  exact @of_decide_eq_true _ (decDen c x y) h
theorem vEqB_dec {c : Ty} {x y : den c} : vEqB c x y = true ↔ x = y := ⟨vEqB_true, fun h => by subst h; unfold vEqB; exact @decide_eq_true _ (decDen c x x) rfl⟩

structure VI (i : M.Inst) : Prop where
  op : 1 ≤ i.Op ∧ i.Op ≤ 56
  byte : i.Byte = true → X.R06_Hasbyte i.Op = true
  src : X.R06_Hassrc i.Op = true ∧ OV i.Src ∨ X.R06_Hassrc i.Op = false ∧ i.Src = ⟨0, 0, 0⟩
  dst : X.R06_Hasdst i.Op = true ∧ OV i.Dst ∨ X.R06_Hasdst i.Op = false ∧ i.Dst = ⟨0, 0, 0⟩
  reg : 0 ≤ i.Reg ∧ i.Reg ≤ 7
  reg2 : i.Reg = 0 ∨ X.R06_Hasreg i.Op = true
  num : X.R06_least i.Op ≤ i.Num ∧ i.Num ≤ X.R06_greatest i.Op
  al : alw i = true

theorem opd_inv {h : Bool} {s : M.Operand} (k : (bif h then (bif (!(X.R05_Valid s)) then true else (bif (!h) then (!(vEqB (Ty.st SId.sOperand) s (⟨(0 : Int), (0 : Int), (0 : Int)⟩ : M.Operand))) else false)) else (bif (!h) then (!(vEqB (Ty.st SId.sOperand) s (⟨(0 : Int), (0 : Int), (0 : Int)⟩ : M.Operand))) else false)) = false) : h = true ∧ OV s ∨ h = false ∧ s = ⟨0, 0, 0⟩ := by
  cases h with
  | true =>
    left
    refine ⟨rfl, ov_of ?_⟩
    cases hv : X.R05_Valid s with
    | true => rfl
    | false => rw [hv] at k; cases k
  | false =>
    right
    refine ⟨rfl, ?_⟩
    have e : vEqB (Ty.st SId.sOperand) s (⟨(0 : Int), (0 : Int), (0 : Int)⟩ : M.Operand) = true := by
      cases hv : vEqB (Ty.st SId.sOperand) s (⟨(0 : Int), (0 : Int), (0 : Int)⟩ : M.Operand) with
      | true => rfl
      | false => rw [hv] at k; cases k
    exact vEqB_true e

theorem valid_inv {i : M.Inst} (h : X.R06_Valid i = true) : VI i := by
  unfold X.R06_Valid at h
  rw [bif_nand, Bool.and_eq_true] at h
  obtain ⟨a1, h⟩ := h
  rw [bif_nand, Bool.and_eq_true] at h
  obtain ⟨a2, h⟩ := h
  rw [bif_nand, Bool.and_eq_true] at h
  obtain ⟨a3, h⟩ := h
  rw [bif_nand, Bool.and_eq_true] at h
  obtain ⟨a4, h⟩ := h
  rw [bif_nand, Bool.and_eq_true] at h
  obtain ⟨a5, h⟩ := h
  rw [Bool.not_eq_true'] at a1 a2 a3 a4 a5
  have b2 := opd_inv a2
  have b3 := opd_inv a3
  simp only [bif_or, bif_and, Bool.or_eq_false_iff, decide_eq_false_iff_not] at a1
  obtain ⟨o1, o2, o3⟩ := a1
  simp only [bif_or, bif_and, Bool.or_eq_false_iff, decide_eq_false_iff_not] at a4
  obtain ⟨r1, r2, r3⟩ := a4
  have n : ¬ i.Num < X.R06_least i.Op ∧ ¬ i.Num > X.R06_greatest i.Op ∧ (i.Reg = 0 ∨ X.R06_Hasreg i.Op = true) := by
    cases hr : (i.Reg != 0) with
    | true =>
      rw [hr] at r3
      simp only [cond_true, Bool.or_eq_false_iff, decide_eq_false_iff_not, Bool.not_eq_false'] at r3
      exact ⟨r3.2.1, r3.2.2, .inr r3.1⟩
    | false =>
      rw [hr] at r3
      simp only [cond_false, Bool.or_eq_false_iff, decide_eq_false_iff_not] at r3
      exact ⟨r3.1, r3.2, .inl (by simpa using hr)⟩
  refine ⟨by omega, fun hb => ?_, b2, b3, by omega, n.2.2, by omega, ?_⟩
  · rw [hb] at o3
    simpa using o3
  · unfold alw
    revert a5 h
    cases (i.Op == 9) <;> cases h41 : (i.Op == 41) <;> cases h42 : (i.Op == 42) <;> cases (Int.tmod i.Reg 2 == 1) <;> cases (i.Dst.Mode != 0) <;> simp_all
end PL
end Go.Proofs.Ytnonimnhninafaa.Ab

/- The first word of a valid instruction; printed by a program of the session. -/
namespace Go.Proofs.Ytnonimnhninafaa.Ab
open Go
set_option linter.unusedVariables false
set_option linter.unusedSimpArgs false
namespace PL
set_option maxRecDepth 100000

def fld (o : M.Operand) : Int := o.Mode * 8 + o.Reg
def srcS (s : Int) : Bool := s == 1 || (s == 2 || s == 5)
def dstS (s : Int) : Bool := s == 1 || (s == 3 || (s == 4 || (s == 6 || s == 7)))
def regS (s : Int) : Bool := s == 5 || (s == 6 || (s == 7 || (s == 8 || s == 10)))
def bitS (s : Int) : Int := if s = 1 then 4096 else if s = 5 ∨ s = 6 ∨ s = 7 ∨ s = 10 then 512 else if s = 9 ∨ s = 11 then 256 else if s = 8 then 8 else if s = 12 then 16 else if s = 0 then 1 else 64
def loS (s : Int) : Int := if s = 9 then -128 else 0
def hiS (s : Int) : Int := if s = 9 then 127 else if s = 10 then 63 else if s = 11 then 255 else if s = 12 then 15 else 0
def off (s : Int) (i : M.Inst) : Int :=
  if s = 1 then 64 * fld i.Src + fld i.Dst else if s = 5 then 64 * i.Reg + fld i.Src else if s = 9 then i.Num % 256 else if s = 10 then 64 * i.Reg + i.Num else if s = 8 then i.Reg
  else if s = 2 then fld i.Src else if s = 6 ∨ s = 7 then 64 * i.Reg + fld i.Dst else if s = 3 ∨ s = 4 then fld i.Dst else i.Num
def bb (b : Bool) : Int := bif b then 32768 else 0
instance : BEq M.Inst_form := ⟨fun a b => decide (a.first = b.first ∧ a.bits = b.bits ∧ a.op = b.op ∧ a.shape = b.shape ∧ a.bytes = b.bytes)⟩
def tf (f : M.Inst_form) : Bool :=
  decide (0 ≤ f.shape ∧ f.shape ≤ 12) && (decide ((2 : Int) ^ (Min.min (Int.toNat f.bits) 64) = bitS f.shape) && (decide (0 ≤ f.first ∧ f.first + bitS f.shape ≤ 65536 ∧ f.first % bitS f.shape = 0) &&
  ((!f.bytes || decide (f.first + bitS f.shape ≤ 32768 ∧ 32768 % bitS f.shape = 0 ∧ bitOf BinOp.or IntKind.i64 f.first 32768 = f.first + 32768)) && ((X.R06_Hassrc f.op == srcS f.shape) && ((X.R06_Hasdst f.op == dstS f.shape) && ((X.R06_Hasreg f.op == regS f.shape) &&
  ((X.R06_Hasbyte f.op == f.bytes) && (decide (X.R06_least f.op = loS f.shape) && (decide (X.R06_greatest f.op = hiS f.shape) && ((byOp f.op forms == some f)))))))))))

theorem tf_all : forms.all tf = true := by kernel_rfl
theorem ops_all : (List.range 56).all (fun n => (byOp ((n : Int) + 1) forms).isSome) = true := by kernel_rfl
theorem byOp_ex {o : Int} (h : 1 ≤ o ∧ o ≤ 56) : ∃ f, byOp o forms = some f := by
  have := ops_all
  rw [List.all_eq_true] at this
  have h2 := this (o - 1).toNat (by rw [List.mem_range]; omega)
  rw [show (((o - 1).toNat : Nat) : Int) + 1 = o by omega] at h2
  exact Option.isSome_iff_exists.1 h2
theorem byOp_no {o : Int} {f : M.Inst_form} (h : byOp o forms = some f) : 1 ≤ o ∧ o ≤ 56 := by
  obtain ⟨h1, rfl⟩ := byOp_some h
  have : forms.all (fun f => decide (1 ≤ f.op ∧ f.op ≤ 56)) = true := by decide
  rw [List.all_eq_true] at this
  exact of_decide_eq_true (this f h1)

structure TF (f : M.Inst_form) : Prop where
  shape : 0 ≤ f.shape ∧ f.shape ≤ 12
  bits : (2 : Int) ^ (Min.min (Int.toNat f.bits) 64) = bitS f.shape
  first : 0 ≤ f.first ∧ f.first + bitS f.shape ≤ 65536 ∧ f.first % bitS f.shape = 0
  bytes : f.bytes = true → f.first + bitS f.shape ≤ 32768 ∧ 32768 % bitS f.shape = 0 ∧ bitOf BinOp.or IntKind.i64 f.first 32768 = f.first + 32768
  src : X.R06_Hassrc f.op = srcS f.shape
  dst : X.R06_Hasdst f.op = dstS f.shape
  reg : X.R06_Hasreg f.op = regS f.shape
  byte : X.R06_Hasbyte f.op = f.bytes
  lo : X.R06_least f.op = loS f.shape
  hi : X.R06_greatest f.op = hiS f.shape
theorem tf_of {f : M.Inst_form} (h : f ∈ forms) : TF f := by
  have := tf_all
  rw [List.all_eq_true] at this
  have h := this f h
  unfold tf at h
  simp only [Bool.and_eq_true, decide_eq_true_eq, Bool.or_eq_true, Bool.not_eq_true', beq_iff_eq] at h
  obtain ⟨h1, h2, h3, h4, h5, h6, h7, h8, h9, h10, _⟩ := h
  refine ⟨h1, h2, h3, fun hb => ?_, h5, h6, h7, h8, h9, h10⟩
  rcases h4 with h4 | h4
  · rw [hb] at h4; cases h4
  · exact h4

theorem fld_r {o : M.Operand} (h : OV o) : 0 ≤ fld o ∧ fld o < 64 := by have := h.mode; have := h.reg; unfold fld; omega
theorem fieldP {o : M.Operand} (h : OV o) : X.operand_Field o = fld o := by
  have h1 := h.mode
  have h2 := h.reg
  unfold X.operand_Field X.operand_mode X.operand_reg fld
  rw [mask3, mask3, show ((2 : Int) ^ (3 : Nat)) = 8 from rfl]
  have e1 : o.Mode % 8 = o.Mode := by omega
  have e2 : o.Reg % 8 = o.Reg := by omega
  rw [e1, e2, wrap64 (by omega) (by omega)]
  exact or_add 3 (by omega) (by omega) (by first | (simp; done) | (simp; omega)) (by omega) (by first | (simp; done) | (simp; omega)) (by omega)
theorem fieldR {o : M.Operand} (h : OV o) : X.R05_Field o = fld o := by
  have h1 := h.mode
  have h2 := h.reg
  unfold X.R05_Field X.R05_Mode X.R05_Register fld
  rw [mask3, mask3]
  have e1 : o.Mode % 8 = o.Mode := by omega
  have e2 : o.Reg % 8 = o.Reg := by omega
  rw [e1, e2, wrap64 (x := 8 * o.Mode) (by omega) (by omega), wrap64 (by omega) (by omega)]
  omega
theorem ov0 : OV ⟨0, 0, 0⟩ := ⟨by decide, by decide, by decide, .inl rfl⟩
theorem VI.ovs {i : M.Inst} (v : VI i) : OV i.Src := by
  rcases v.src with ⟨_, h⟩ | ⟨_, h⟩
  · exact h
  · rw [h]; exact ov0
theorem VI.ovd {i : M.Inst} (v : VI i) : OV i.Dst := by
  rcases v.dst with ⟨_, h⟩ | ⟨_, h⟩
  · exact h
  · rw [h]; exact ov0

theorem fs0 {i : M.Inst} (ho : i.Op = 1) (v : VI i) : X.R06_first i = 4096 + bb i.Byte + off 1 i := by
  have es := fieldR v.ovs
  have ed := fieldR v.ovd
  obtain ⟨s0, s1⟩ := fld_r v.ovs
  obtain ⟨d0, d1⟩ := fld_r v.ovd
  obtain ⟨r0, r1⟩ := v.reg
  have hn := v.num
  have hb := v.byte
  rw [ho] at hn hb
  have hn : 0 ≤ i.Num ∧ i.Num ≤ 0 := hn
  unfold X.R06_first
  rw [ho, es, ed]
  simp only [X.R06_Islong, ge_iff_le, Int.reduceLE, decide_true, decide_false, cond_true, cond_false, Int.reduceBEq, Int.reduceSub, Int.reduceAdd, Int.reduceMul, off, Int.reduceEq, if_true, if_false, or_self, or_true, true_or, or_false, false_or]
  cases i.Byte <;> simp only [bb, cond_true, cond_false]
  · (try simp (disch := omega) only [wrap64, Int.tmod_eq_emod_of_nonneg]) <;> omega
  · (try simp (disch := omega) only [wrap64, Int.tmod_eq_emod_of_nonneg]) <;> omega
theorem fs1 {i : M.Inst} (ho : i.Op = 2) (v : VI i) : X.R06_first i = 8192 + bb i.Byte + off 1 i := by
  have es := fieldR v.ovs
  have ed := fieldR v.ovd
  obtain ⟨s0, s1⟩ := fld_r v.ovs
  obtain ⟨d0, d1⟩ := fld_r v.ovd
  obtain ⟨r0, r1⟩ := v.reg
  have hn := v.num
  have hb := v.byte
  rw [ho] at hn hb
  have hn : 0 ≤ i.Num ∧ i.Num ≤ 0 := hn
  unfold X.R06_first
  rw [ho, es, ed]
  simp only [X.R06_Islong, ge_iff_le, Int.reduceLE, decide_true, decide_false, cond_true, cond_false, Int.reduceBEq, Int.reduceSub, Int.reduceAdd, Int.reduceMul, off, Int.reduceEq, if_true, if_false, or_self, or_true, true_or, or_false, false_or]
  cases i.Byte <;> simp only [bb, cond_true, cond_false]
  · (try simp (disch := omega) only [wrap64, Int.tmod_eq_emod_of_nonneg]) <;> omega
  · (try simp (disch := omega) only [wrap64, Int.tmod_eq_emod_of_nonneg]) <;> omega
theorem fs2 {i : M.Inst} (ho : i.Op = 3) (v : VI i) : X.R06_first i = 12288 + bb i.Byte + off 1 i := by
  have es := fieldR v.ovs
  have ed := fieldR v.ovd
  obtain ⟨s0, s1⟩ := fld_r v.ovs
  obtain ⟨d0, d1⟩ := fld_r v.ovd
  obtain ⟨r0, r1⟩ := v.reg
  have hn := v.num
  have hb := v.byte
  rw [ho] at hn hb
  have hn : 0 ≤ i.Num ∧ i.Num ≤ 0 := hn
  unfold X.R06_first
  rw [ho, es, ed]
  simp only [X.R06_Islong, ge_iff_le, Int.reduceLE, decide_true, decide_false, cond_true, cond_false, Int.reduceBEq, Int.reduceSub, Int.reduceAdd, Int.reduceMul, off, Int.reduceEq, if_true, if_false, or_self, or_true, true_or, or_false, false_or]
  cases i.Byte <;> simp only [bb, cond_true, cond_false]
  · (try simp (disch := omega) only [wrap64, Int.tmod_eq_emod_of_nonneg]) <;> omega
  · (try simp (disch := omega) only [wrap64, Int.tmod_eq_emod_of_nonneg]) <;> omega
theorem fs3 {i : M.Inst} (ho : i.Op = 4) (v : VI i) : X.R06_first i = 16384 + bb i.Byte + off 1 i := by
  have es := fieldR v.ovs
  have ed := fieldR v.ovd
  obtain ⟨s0, s1⟩ := fld_r v.ovs
  obtain ⟨d0, d1⟩ := fld_r v.ovd
  obtain ⟨r0, r1⟩ := v.reg
  have hn := v.num
  have hb := v.byte
  rw [ho] at hn hb
  have hn : 0 ≤ i.Num ∧ i.Num ≤ 0 := hn
  unfold X.R06_first
  rw [ho, es, ed]
  simp only [X.R06_Islong, ge_iff_le, Int.reduceLE, decide_true, decide_false, cond_true, cond_false, Int.reduceBEq, Int.reduceSub, Int.reduceAdd, Int.reduceMul, off, Int.reduceEq, if_true, if_false, or_self, or_true, true_or, or_false, false_or]
  cases i.Byte <;> simp only [bb, cond_true, cond_false]
  · (try simp (disch := omega) only [wrap64, Int.tmod_eq_emod_of_nonneg]) <;> omega
  · (try simp (disch := omega) only [wrap64, Int.tmod_eq_emod_of_nonneg]) <;> omega
theorem fs4 {i : M.Inst} (ho : i.Op = 5) (v : VI i) : X.R06_first i = 20480 + bb i.Byte + off 1 i := by
  have es := fieldR v.ovs
  have ed := fieldR v.ovd
  obtain ⟨s0, s1⟩ := fld_r v.ovs
  obtain ⟨d0, d1⟩ := fld_r v.ovd
  obtain ⟨r0, r1⟩ := v.reg
  have hn := v.num
  have hb := v.byte
  rw [ho] at hn hb
  have hn : 0 ≤ i.Num ∧ i.Num ≤ 0 := hn
  unfold X.R06_first
  rw [ho, es, ed]
  simp only [X.R06_Islong, ge_iff_le, Int.reduceLE, decide_true, decide_false, cond_true, cond_false, Int.reduceBEq, Int.reduceSub, Int.reduceAdd, Int.reduceMul, off, Int.reduceEq, if_true, if_false, or_self, or_true, true_or, or_false, false_or]
  cases i.Byte <;> simp only [bb, cond_true, cond_false]
  · (try simp (disch := omega) only [wrap64, Int.tmod_eq_emod_of_nonneg]) <;> omega
  · (try simp (disch := omega) only [wrap64, Int.tmod_eq_emod_of_nonneg]) <;> omega
theorem fs5 {i : M.Inst} (ho : i.Op = 6) (v : VI i) : X.R06_first i = 24576 + bb i.Byte + off 1 i := by
  have es := fieldR v.ovs
  have ed := fieldR v.ovd
  obtain ⟨s0, s1⟩ := fld_r v.ovs
  obtain ⟨d0, d1⟩ := fld_r v.ovd
  obtain ⟨r0, r1⟩ := v.reg
  have hn := v.num
  have hb := v.byte
  rw [ho] at hn hb
  have hn : 0 ≤ i.Num ∧ i.Num ≤ 0 := hn
  have hb : i.Byte = false := Bool.eq_false_iff.2 fun h => absurd (hb h) (by decide)
  unfold X.R06_first
  rw [ho, es, ed]
  simp only [X.R06_Islong, ge_iff_le, Int.reduceLE, decide_true, decide_false, cond_true, cond_false, Int.reduceBEq, Int.reduceSub, Int.reduceAdd, Int.reduceMul, off, Int.reduceEq, if_true, if_false, or_self, or_true, true_or, or_false, false_or]
  rw [hb]
  simp only [bb, cond_false]
  (try simp (disch := omega) only [wrap64, Int.tmod_eq_emod_of_nonneg]) <;> omega
theorem fs6 {i : M.Inst} (ho : i.Op = 7) (v : VI i) : X.R06_first i = 57344 + bb i.Byte + off 1 i := by
  have es := fieldR v.ovs
  have ed := fieldR v.ovd
  obtain ⟨s0, s1⟩ := fld_r v.ovs
  obtain ⟨d0, d1⟩ := fld_r v.ovd
  obtain ⟨r0, r1⟩ := v.reg
  have hn := v.num
  have hb := v.byte
  rw [ho] at hn hb
  have hn : 0 ≤ i.Num ∧ i.Num ≤ 0 := hn
  have hb : i.Byte = false := Bool.eq_false_iff.2 fun h => absurd (hb h) (by decide)
  unfold X.R06_first
  rw [ho, es, ed]
  simp only [X.R06_Islong, ge_iff_le, Int.reduceLE, decide_true, decide_false, cond_true, cond_false, Int.reduceBEq, Int.reduceSub, Int.reduceAdd, Int.reduceMul, off, Int.reduceEq, if_true, if_false, or_self, or_true, true_or, or_false, false_or]
  rw [hb]
  simp only [bb, cond_false]
  (try simp (disch := omega) only [wrap64, Int.tmod_eq_emod_of_nonneg]) <;> omega
theorem fs7 {i : M.Inst} (ho : i.Op = 8) (v : VI i) : X.R06_first i = 28672 + bb i.Byte + off 5 i := by
  have es := fieldR v.ovs
  have ed := fieldR v.ovd
  obtain ⟨s0, s1⟩ := fld_r v.ovs
  obtain ⟨d0, d1⟩ := fld_r v.ovd
  obtain ⟨r0, r1⟩ := v.reg
  have hn := v.num
  have hb := v.byte
  rw [ho] at hn hb
  have hn : 0 ≤ i.Num ∧ i.Num ≤ 0 := hn
  have hb : i.Byte = false := Bool.eq_false_iff.2 fun h => absurd (hb h) (by decide)
  unfold X.R06_first
  rw [ho, es, ed]
  simp only [X.R06_Islong, ge_iff_le, Int.reduceLE, decide_true, decide_false, cond_true, cond_false, Int.reduceBEq, Int.reduceSub, Int.reduceAdd, Int.reduceMul, off, Int.reduceEq, if_true, if_false, or_self, or_true, true_or, or_false, false_or]
  rw [hb]
  simp only [bb, cond_false]
  (try simp (disch := omega) only [wrap64, Int.tmod_eq_emod_of_nonneg]) <;> omega
theorem fs8 {i : M.Inst} (ho : i.Op = 9) (v : VI i) : X.R06_first i = 29184 + bb i.Byte + off 5 i := by
  have es := fieldR v.ovs
  have ed := fieldR v.ovd
  obtain ⟨s0, s1⟩ := fld_r v.ovs
  obtain ⟨d0, d1⟩ := fld_r v.ovd
  obtain ⟨r0, r1⟩ := v.reg
  have hn := v.num
  have hb := v.byte
  rw [ho] at hn hb
  have hn : 0 ≤ i.Num ∧ i.Num ≤ 0 := hn
  have hb : i.Byte = false := Bool.eq_false_iff.2 fun h => absurd (hb h) (by decide)
  unfold X.R06_first
  rw [ho, es, ed]
  simp only [X.R06_Islong, ge_iff_le, Int.reduceLE, decide_true, decide_false, cond_true, cond_false, Int.reduceBEq, Int.reduceSub, Int.reduceAdd, Int.reduceMul, off, Int.reduceEq, if_true, if_false, or_self, or_true, true_or, or_false, false_or]
  rw [hb]
  simp only [bb, cond_false]
  (try simp (disch := omega) only [wrap64, Int.tmod_eq_emod_of_nonneg]) <;> omega
theorem fs9 {i : M.Inst} (ho : i.Op = 10) (v : VI i) : X.R06_first i = 29696 + bb i.Byte + off 5 i := by
  have es := fieldR v.ovs
  have ed := fieldR v.ovd
  obtain ⟨s0, s1⟩ := fld_r v.ovs
  obtain ⟨d0, d1⟩ := fld_r v.ovd
  obtain ⟨r0, r1⟩ := v.reg
  have hn := v.num
  have hb := v.byte
  rw [ho] at hn hb
  have hn : 0 ≤ i.Num ∧ i.Num ≤ 0 := hn
  have hb : i.Byte = false := Bool.eq_false_iff.2 fun h => absurd (hb h) (by decide)
  unfold X.R06_first
  rw [ho, es, ed]
  simp only [X.R06_Islong, ge_iff_le, Int.reduceLE, decide_true, decide_false, cond_true, cond_false, Int.reduceBEq, Int.reduceSub, Int.reduceAdd, Int.reduceMul, off, Int.reduceEq, if_true, if_false, or_self, or_true, true_or, or_false, false_or]
  rw [hb]
  simp only [bb, cond_false]
  (try simp (disch := omega) only [wrap64, Int.tmod_eq_emod_of_nonneg]) <;> omega
theorem fs10 {i : M.Inst} (ho : i.Op = 11) (v : VI i) : X.R06_first i = 30720 + bb i.Byte + off 6 i := by
  have es := fieldR v.ovs
  have ed := fieldR v.ovd
  obtain ⟨s0, s1⟩ := fld_r v.ovs
  obtain ⟨d0, d1⟩ := fld_r v.ovd
  obtain ⟨r0, r1⟩ := v.reg
  have hn := v.num
  have hb := v.byte
  rw [ho] at hn hb
  have hn : 0 ≤ i.Num ∧ i.Num ≤ 0 := hn
  have hb : i.Byte = false := Bool.eq_false_iff.2 fun h => absurd (hb h) (by decide)
  unfold X.R06_first
  rw [ho, es, ed]
  simp only [X.R06_Islong, ge_iff_le, Int.reduceLE, decide_true, decide_false, cond_true, cond_false, Int.reduceBEq, Int.reduceSub, Int.reduceAdd, Int.reduceMul, off, Int.reduceEq, if_true, if_false, or_self, or_true, true_or, or_false, false_or]
  rw [hb]
  simp only [bb, cond_false]
  (try simp (disch := omega) only [wrap64, Int.tmod_eq_emod_of_nonneg]) <;> omega
theorem fs11 {i : M.Inst} (ho : i.Op = 12) (v : VI i) : X.R06_first i = 2560 + bb i.Byte + off 3 i := by
  have es := fieldR v.ovs
  have ed := fieldR v.ovd
  obtain ⟨s0, s1⟩ := fld_r v.ovs
  obtain ⟨d0, d1⟩ := fld_r v.ovd
  obtain ⟨r0, r1⟩ := v.reg
  have hn := v.num
  have hb := v.byte
  rw [ho] at hn hb
  have hn : 0 ≤ i.Num ∧ i.Num ≤ 0 := hn
  unfold X.R06_first
  rw [ho, es, ed]
  simp only [X.R06_Islong, ge_iff_le, Int.reduceLE, decide_true, decide_false, cond_true, cond_false, Int.reduceBEq, Int.reduceSub, Int.reduceAdd, Int.reduceMul, off, Int.reduceEq, if_true, if_false, or_self, or_true, true_or, or_false, false_or]
  cases i.Byte <;> simp only [bb, cond_true, cond_false]
  · (try simp (disch := omega) only [wrap64, Int.tmod_eq_emod_of_nonneg]) <;> omega
  · (try simp (disch := omega) only [wrap64, Int.tmod_eq_emod_of_nonneg]) <;> omega
theorem fs12 {i : M.Inst} (ho : i.Op = 13) (v : VI i) : X.R06_first i = 2624 + bb i.Byte + off 3 i := by
  have es := fieldR v.ovs
  have ed := fieldR v.ovd
  obtain ⟨s0, s1⟩ := fld_r v.ovs
  obtain ⟨d0, d1⟩ := fld_r v.ovd
  obtain ⟨r0, r1⟩ := v.reg
  have hn := v.num
  have hb := v.byte
  rw [ho] at hn hb
  have hn : 0 ≤ i.Num ∧ i.Num ≤ 0 := hn
  unfold X.R06_first
  rw [ho, es, ed]
  simp only [X.R06_Islong, ge_iff_le, Int.reduceLE, decide_true, decide_false, cond_true, cond_false, Int.reduceBEq, Int.reduceSub, Int.reduceAdd, Int.reduceMul, off, Int.reduceEq, if_true, if_false, or_self, or_true, true_or, or_false, false_or]
  cases i.Byte <;> simp only [bb, cond_true, cond_false]
  · (try simp (disch := omega) only [wrap64, Int.tmod_eq_emod_of_nonneg]) <;> omega
  · (try simp (disch := omega) only [wrap64, Int.tmod_eq_emod_of_nonneg]) <;> omega
theorem fs13 {i : M.Inst} (ho : i.Op = 14) (v : VI i) : X.R06_first i = 2688 + bb i.Byte + off 3 i := by
  have es := fieldR v.ovs
  have ed := fieldR v.ovd
  obtain ⟨s0, s1⟩ := fld_r v.ovs
  obtain ⟨d0, d1⟩ := fld_r v.ovd
  obtain ⟨r0, r1⟩ := v.reg
  have hn := v.num
  have hb := v.byte
  rw [ho] at hn hb
  have hn : 0 ≤ i.Num ∧ i.Num ≤ 0 := hn
  unfold X.R06_first
  rw [ho, es, ed]
  simp only [X.R06_Islong, ge_iff_le, Int.reduceLE, decide_true, decide_false, cond_true, cond_false, Int.reduceBEq, Int.reduceSub, Int.reduceAdd, Int.reduceMul, off, Int.reduceEq, if_true, if_false, or_self, or_true, true_or, or_false, false_or]
  cases i.Byte <;> simp only [bb, cond_true, cond_false]
  · (try simp (disch := omega) only [wrap64, Int.tmod_eq_emod_of_nonneg]) <;> omega
  · (try simp (disch := omega) only [wrap64, Int.tmod_eq_emod_of_nonneg]) <;> omega
theorem fs14 {i : M.Inst} (ho : i.Op = 15) (v : VI i) : X.R06_first i = 2752 + bb i.Byte + off 3 i := by
  have es := fieldR v.ovs
  have ed := fieldR v.ovd
  obtain ⟨s0, s1⟩ := fld_r v.ovs
  obtain ⟨d0, d1⟩ := fld_r v.ovd
  obtain ⟨r0, r1⟩ := v.reg
  have hn := v.num
  have hb := v.byte
  rw [ho] at hn hb
  have hn : 0 ≤ i.Num ∧ i.Num ≤ 0 := hn
  unfold X.R06_first
  rw [ho, es, ed]
  simp only [X.R06_Islong, ge_iff_le, Int.reduceLE, decide_true, decide_false, cond_true, cond_false, Int.reduceBEq, Int.reduceSub, Int.reduceAdd, Int.reduceMul, off, Int.reduceEq, if_true, if_false, or_self, or_true, true_or, or_false, false_or]
  cases i.Byte <;> simp only [bb, cond_true, cond_false]
  · (try simp (disch := omega) only [wrap64, Int.tmod_eq_emod_of_nonneg]) <;> omega
  · (try simp (disch := omega) only [wrap64, Int.tmod_eq_emod_of_nonneg]) <;> omega
theorem fs15 {i : M.Inst} (ho : i.Op = 16) (v : VI i) : X.R06_first i = 2816 + bb i.Byte + off 3 i := by
  have es := fieldR v.ovs
  have ed := fieldR v.ovd
  obtain ⟨s0, s1⟩ := fld_r v.ovs
  obtain ⟨d0, d1⟩ := fld_r v.ovd
  obtain ⟨r0, r1⟩ := v.reg
  have hn := v.num
  have hb := v.byte
  rw [ho] at hn hb
  have hn : 0 ≤ i.Num ∧ i.Num ≤ 0 := hn
  unfold X.R06_first
  rw [ho, es, ed]
  simp only [X.R06_Islong, ge_iff_le, Int.reduceLE, decide_true, decide_false, cond_true, cond_false, Int.reduceBEq, Int.reduceSub, Int.reduceAdd, Int.reduceMul, off, Int.reduceEq, if_true, if_false, or_self, or_true, true_or, or_false, false_or]
  cases i.Byte <;> simp only [bb, cond_true, cond_false]
  · (try simp (disch := omega) only [wrap64, Int.tmod_eq_emod_of_nonneg]) <;> omega
  · (try simp (disch := omega) only [wrap64, Int.tmod_eq_emod_of_nonneg]) <;> omega
theorem fs16 {i : M.Inst} (ho : i.Op = 17) (v : VI i) : X.R06_first i = 2880 + bb i.Byte + off 3 i := by
  have es := fieldR v.ovs
  have ed := fieldR v.ovd
  obtain ⟨s0, s1⟩ := fld_r v.ovs
  obtain ⟨d0, d1⟩ := fld_r v.ovd
  obtain ⟨r0, r1⟩ := v.reg
  have hn := v.num
  have hb := v.byte
  rw [ho] at hn hb
  have hn : 0 ≤ i.Num ∧ i.Num ≤ 0 := hn
  unfold X.R06_first
  rw [ho, es, ed]
  simp only [X.R06_Islong, ge_iff_le, Int.reduceLE, decide_true, decide_false, cond_true, cond_false, Int.reduceBEq, Int.reduceSub, Int.reduceAdd, Int.reduceMul, off, Int.reduceEq, if_true, if_false, or_self, or_true, true_or, or_false, false_or]
  cases i.Byte <;> simp only [bb, cond_true, cond_false]
  · (try simp (disch := omega) only [wrap64, Int.tmod_eq_emod_of_nonneg]) <;> omega
  · (try simp (disch := omega) only [wrap64, Int.tmod_eq_emod_of_nonneg]) <;> omega
theorem fs17 {i : M.Inst} (ho : i.Op = 18) (v : VI i) : X.R06_first i = 2944 + bb i.Byte + off 3 i := by
  have es := fieldR v.ovs
  have ed := fieldR v.ovd
  obtain ⟨s0, s1⟩ := fld_r v.ovs
  obtain ⟨d0, d1⟩ := fld_r v.ovd
  obtain ⟨r0, r1⟩ := v.reg
  have hn := v.num
  have hb := v.byte
  rw [ho] at hn hb
  have hn : 0 ≤ i.Num ∧ i.Num ≤ 0 := hn
  unfold X.R06_first
  rw [ho, es, ed]
  simp only [X.R06_Islong, ge_iff_le, Int.reduceLE, decide_true, decide_false, cond_true, cond_false, Int.reduceBEq, Int.reduceSub, Int.reduceAdd, Int.reduceMul, off, Int.reduceEq, if_true, if_false, or_self, or_true, true_or, or_false, false_or]
  cases i.Byte <;> simp only [bb, cond_true, cond_false]
  · (try simp (disch := omega) only [wrap64, Int.tmod_eq_emod_of_nonneg]) <;> omega
  · (try simp (disch := omega) only [wrap64, Int.tmod_eq_emod_of_nonneg]) <;> omega
theorem fs18 {i : M.Inst} (ho : i.Op = 19) (v : VI i) : X.R06_first i = 3008 + bb i.Byte + off 3 i := by
  have es := fieldR v.ovs
  have ed := fieldR v.ovd
  obtain ⟨s0, s1⟩ := fld_r v.ovs
  obtain ⟨d0, d1⟩ := fld_r v.ovd
  obtain ⟨r0, r1⟩ := v.reg
  have hn := v.num
  have hb := v.byte
  rw [ho] at hn hb
  have hn : 0 ≤ i.Num ∧ i.Num ≤ 0 := hn
  unfold X.R06_first
  rw [ho, es, ed]
  simp only [X.R06_Islong, ge_iff_le, Int.reduceLE, decide_true, decide_false, cond_true, cond_false, Int.reduceBEq, Int.reduceSub, Int.reduceAdd, Int.reduceMul, off, Int.reduceEq, if_true, if_false, or_self, or_true, true_or, or_false, false_or]
  cases i.Byte <;> simp only [bb, cond_true, cond_false]
  · (try simp (disch := omega) only [wrap64, Int.tmod_eq_emod_of_nonneg]) <;> omega
  · (try simp (disch := omega) only [wrap64, Int.tmod_eq_emod_of_nonneg]) <;> omega
theorem fs19 {i : M.Inst} (ho : i.Op = 20) (v : VI i) : X.R06_first i = 3072 + bb i.Byte + off 3 i := by
  have es := fieldR v.ovs
  have ed := fieldR v.ovd
  obtain ⟨s0, s1⟩ := fld_r v.ovs
  obtain ⟨d0, d1⟩ := fld_r v.ovd
  obtain ⟨r0, r1⟩ := v.reg
  have hn := v.num
  have hb := v.byte
  rw [ho] at hn hb
  have hn : 0 ≤ i.Num ∧ i.Num ≤ 0 := hn
  unfold X.R06_first
  rw [ho, es, ed]
  simp only [X.R06_Islong, ge_iff_le, Int.reduceLE, decide_true, decide_false, cond_true, cond_false, Int.reduceBEq, Int.reduceSub, Int.reduceAdd, Int.reduceMul, off, Int.reduceEq, if_true, if_false, or_self, or_true, true_or, or_false, false_or]
  cases i.Byte <;> simp only [bb, cond_true, cond_false]
  · (try simp (disch := omega) only [wrap64, Int.tmod_eq_emod_of_nonneg]) <;> omega
  · (try simp (disch := omega) only [wrap64, Int.tmod_eq_emod_of_nonneg]) <;> omega
theorem fs20 {i : M.Inst} (ho : i.Op = 21) (v : VI i) : X.R06_first i = 3136 + bb i.Byte + off 3 i := by
  have es := fieldR v.ovs
  have ed := fieldR v.ovd
  obtain ⟨s0, s1⟩ := fld_r v.ovs
  obtain ⟨d0, d1⟩ := fld_r v.ovd
  obtain ⟨r0, r1⟩ := v.reg
  have hn := v.num
  have hb := v.byte
  rw [ho] at hn hb
  have hn : 0 ≤ i.Num ∧ i.Num ≤ 0 := hn
  unfold X.R06_first
  rw [ho, es, ed]
  simp only [X.R06_Islong, ge_iff_le, Int.reduceLE, decide_true, decide_false, cond_true, cond_false, Int.reduceBEq, Int.reduceSub, Int.reduceAdd, Int.reduceMul, off, Int.reduceEq, if_true, if_false, or_self, or_true, true_or, or_false, false_or]
  cases i.Byte <;> simp only [bb, cond_true, cond_false]
  · (try simp (disch := omega) only [wrap64, Int.tmod_eq_emod_of_nonneg]) <;> omega
  · (try simp (disch := omega) only [wrap64, Int.tmod_eq_emod_of_nonneg]) <;> omega
theorem fs21 {i : M.Inst} (ho : i.Op = 22) (v : VI i) : X.R06_first i = 3200 + bb i.Byte + off 3 i := by
  have es := fieldR v.ovs
  have ed := fieldR v.ovd
  obtain ⟨s0, s1⟩ := fld_r v.ovs
  obtain ⟨d0, d1⟩ := fld_r v.ovd
  obtain ⟨r0, r1⟩ := v.reg
  have hn := v.num
  have hb := v.byte
  rw [ho] at hn hb
  have hn : 0 ≤ i.Num ∧ i.Num ≤ 0 := hn
  unfold X.R06_first
  rw [ho, es, ed]
  simp only [X.R06_Islong, ge_iff_le, Int.reduceLE, decide_true, decide_false, cond_true, cond_false, Int.reduceBEq, Int.reduceSub, Int.reduceAdd, Int.reduceMul, off, Int.reduceEq, if_true, if_false, or_self, or_true, true_or, or_false, false_or]
  cases i.Byte <;> simp only [bb, cond_true, cond_false]
  · (try simp (disch := omega) only [wrap64, Int.tmod_eq_emod_of_nonneg]) <;> omega
  · (try simp (disch := omega) only [wrap64, Int.tmod_eq_emod_of_nonneg]) <;> omega
theorem fs22 {i : M.Inst} (ho : i.Op = 23) (v : VI i) : X.R06_first i = 3264 + bb i.Byte + off 3 i := by
  have es := fieldR v.ovs
  have ed := fieldR v.ovd
  obtain ⟨s0, s1⟩ := fld_r v.ovs
  obtain ⟨d0, d1⟩ := fld_r v.ovd
  obtain ⟨r0, r1⟩ := v.reg
  have hn := v.num
  have hb := v.byte
  rw [ho] at hn hb
  have hn : 0 ≤ i.Num ∧ i.Num ≤ 0 := hn
  unfold X.R06_first
  rw [ho, es, ed]
  simp only [X.R06_Islong, ge_iff_le, Int.reduceLE, decide_true, decide_false, cond_true, cond_false, Int.reduceBEq, Int.reduceSub, Int.reduceAdd, Int.reduceMul, off, Int.reduceEq, if_true, if_false, or_self, or_true, true_or, or_false, false_or]
  cases i.Byte <;> simp only [bb, cond_true, cond_false]
  · (try simp (disch := omega) only [wrap64, Int.tmod_eq_emod_of_nonneg]) <;> omega
  · (try simp (disch := omega) only [wrap64, Int.tmod_eq_emod_of_nonneg]) <;> omega
theorem fs23 {i : M.Inst} (ho : i.Op = 24) (v : VI i) : X.R06_first i = 192 + bb i.Byte + off 3 i := by
  have es := fieldR v.ovs
  have ed := fieldR v.ovd
  obtain ⟨s0, s1⟩ := fld_r v.ovs
  obtain ⟨d0, d1⟩ := fld_r v.ovd
  obtain ⟨r0, r1⟩ := v.reg
  have hn := v.num
  have hb := v.byte
  rw [ho] at hn hb
  have hn : 0 ≤ i.Num ∧ i.Num ≤ 0 := hn
  have hb : i.Byte = false := Bool.eq_false_iff.2 fun h => absurd (hb h) (by decide)
  unfold X.R06_first
  rw [ho, es, ed]
  simp only [X.R06_Islong, ge_iff_le, Int.reduceLE, decide_true, decide_false, cond_true, cond_false, Int.reduceBEq, Int.reduceSub, Int.reduceAdd, Int.reduceMul, off, Int.reduceEq, if_true, if_false, or_self, or_true, true_or, or_false, false_or]
  rw [hb]
  simp only [bb, cond_false]
  (try simp (disch := omega) only [wrap64, Int.tmod_eq_emod_of_nonneg]) <;> omega
theorem fs24 {i : M.Inst} (ho : i.Op = 25) (v : VI i) : X.R06_first i = 3520 + bb i.Byte + off 3 i := by
  have es := fieldR v.ovs
  have ed := fieldR v.ovd
  obtain ⟨s0, s1⟩ := fld_r v.ovs
  obtain ⟨d0, d1⟩ := fld_r v.ovd
  obtain ⟨r0, r1⟩ := v.reg
  have hn := v.num
  have hb := v.byte
  rw [ho] at hn hb
  have hn : 0 ≤ i.Num ∧ i.Num ≤ 0 := hn
  have hb : i.Byte = false := Bool.eq_false_iff.2 fun h => absurd (hb h) (by decide)
  unfold X.R06_first
  rw [ho, es, ed]
  simp only [X.R06_Islong, ge_iff_le, Int.reduceLE, decide_true, decide_false, cond_true, cond_false, Int.reduceBEq, Int.reduceSub, Int.reduceAdd, Int.reduceMul, off, Int.reduceEq, if_true, if_false, or_self, or_true, true_or, or_false, false_or]
  rw [hb]
  simp only [bb, cond_false]
  (try simp (disch := omega) only [wrap64, Int.tmod_eq_emod_of_nonneg]) <;> omega
theorem fs25 {i : M.Inst} (ho : i.Op = 55) (v : VI i) : X.R06_first i = 3392 + bb i.Byte + off 2 i := by
  have es := fieldR v.ovs
  have ed := fieldR v.ovd
  obtain ⟨s0, s1⟩ := fld_r v.ovs
  obtain ⟨d0, d1⟩ := fld_r v.ovd
  obtain ⟨r0, r1⟩ := v.reg
  have hn := v.num
  have hb := v.byte
  rw [ho] at hn hb
  have hn : 0 ≤ i.Num ∧ i.Num ≤ 0 := hn
  have hb : i.Byte = false := Bool.eq_false_iff.2 fun h => absurd (hb h) (by decide)
  unfold X.R06_first
  rw [ho, es, ed]
  simp only [X.R06_Islong, ge_iff_le, Int.reduceLE, decide_true, decide_false, cond_true, cond_false, Int.reduceBEq, Int.reduceSub, Int.reduceAdd, Int.reduceMul, off, Int.reduceEq, if_true, if_false, or_self, or_true, true_or, or_false, false_or]
  rw [hb]
  simp only [bb, cond_false]
  (try simp (disch := omega) only [wrap64, Int.tmod_eq_emod_of_nonneg]) <;> omega
theorem fs26 {i : M.Inst} (ho : i.Op = 56) (v : VI i) : X.R06_first i = 3456 + bb i.Byte + off 3 i := by
  have es := fieldR v.ovs
  have ed := fieldR v.ovd
  obtain ⟨s0, s1⟩ := fld_r v.ovs
  obtain ⟨d0, d1⟩ := fld_r v.ovd
  obtain ⟨r0, r1⟩ := v.reg
  have hn := v.num
  have hb := v.byte
  rw [ho] at hn hb
  have hn : 0 ≤ i.Num ∧ i.Num ≤ 0 := hn
  have hb : i.Byte = false := Bool.eq_false_iff.2 fun h => absurd (hb h) (by decide)
  unfold X.R06_first
  rw [ho, es, ed]
  simp only [X.R06_Islong, ge_iff_le, Int.reduceLE, decide_true, decide_false, cond_true, cond_false, Int.reduceBEq, Int.reduceSub, Int.reduceAdd, Int.reduceMul, off, Int.reduceEq, if_true, if_false, or_self, or_true, true_or, or_false, false_or]
  rw [hb]
  simp only [bb, cond_false]
  (try simp (disch := omega) only [wrap64, Int.tmod_eq_emod_of_nonneg]) <;> omega
theorem fs27 {i : M.Inst} (ho : i.Op = 41) (v : VI i) : X.R06_first i = 64 + bb i.Byte + off 4 i := by
  have es := fieldR v.ovs
  have ed := fieldR v.ovd
  obtain ⟨s0, s1⟩ := fld_r v.ovs
  obtain ⟨d0, d1⟩ := fld_r v.ovd
  obtain ⟨r0, r1⟩ := v.reg
  have hn := v.num
  have hb := v.byte
  rw [ho] at hn hb
  have hn : 0 ≤ i.Num ∧ i.Num ≤ 0 := hn
  have hb : i.Byte = false := Bool.eq_false_iff.2 fun h => absurd (hb h) (by decide)
  unfold X.R06_first
  rw [ho, es, ed]
  simp only [X.R06_Islong, ge_iff_le, Int.reduceLE, decide_true, decide_false, cond_true, cond_false, Int.reduceBEq, Int.reduceSub, Int.reduceAdd, Int.reduceMul, off, Int.reduceEq, if_true, if_false, or_self, or_true, true_or, or_false, false_or]
  rw [hb]
  simp only [bb, cond_false]
  (try simp (disch := omega) only [wrap64, Int.tmod_eq_emod_of_nonneg]) <;> omega
theorem fs28 {i : M.Inst} (ho : i.Op = 42) (v : VI i) : X.R06_first i = 2048 + bb i.Byte + off 7 i := by
  have es := fieldR v.ovs
  have ed := fieldR v.ovd
  obtain ⟨s0, s1⟩ := fld_r v.ovs
  obtain ⟨d0, d1⟩ := fld_r v.ovd
  obtain ⟨r0, r1⟩ := v.reg
  have hn := v.num
  have hb := v.byte
  rw [ho] at hn hb
  have hn : 0 ≤ i.Num ∧ i.Num ≤ 0 := hn
  have hb : i.Byte = false := Bool.eq_false_iff.2 fun h => absurd (hb h) (by decide)
  unfold X.R06_first
  rw [ho, es, ed]
  simp only [X.R06_Islong, ge_iff_le, Int.reduceLE, decide_true, decide_false, cond_true, cond_false, Int.reduceBEq, Int.reduceSub, Int.reduceAdd, Int.reduceMul, off, Int.reduceEq, if_true, if_false, or_self, or_true, true_or, or_false, false_or]
  rw [hb]
  simp only [bb, cond_false]
  (try simp (disch := omega) only [wrap64, Int.tmod_eq_emod_of_nonneg]) <;> omega
theorem fs29 {i : M.Inst} (ho : i.Op = 43) (v : VI i) : X.R06_first i = 128 + bb i.Byte + off 8 i := by
  have es := fieldR v.ovs
  have ed := fieldR v.ovd
  obtain ⟨s0, s1⟩ := fld_r v.ovs
  obtain ⟨d0, d1⟩ := fld_r v.ovd
  obtain ⟨r0, r1⟩ := v.reg
  have hn := v.num
  have hb := v.byte
  rw [ho] at hn hb
  have hn : 0 ≤ i.Num ∧ i.Num ≤ 0 := hn
  have hb : i.Byte = false := Bool.eq_false_iff.2 fun h => absurd (hb h) (by decide)
  unfold X.R06_first
  rw [ho, es, ed]
  simp only [X.R06_Islong, ge_iff_le, Int.reduceLE, decide_true, decide_false, cond_true, cond_false, Int.reduceBEq, Int.reduceSub, Int.reduceAdd, Int.reduceMul, off, Int.reduceEq, if_true, if_false, or_self, or_true, true_or, or_false, false_or]
  rw [hb]
  simp only [bb, cond_false]
  (try simp (disch := omega) only [wrap64, Int.tmod_eq_emod_of_nonneg]) <;> omega
theorem fs30 {i : M.Inst} (ho : i.Op = 44) (v : VI i) : X.R06_first i = 32256 + bb i.Byte + off 10 i := by
  have es := fieldR v.ovs
  have ed := fieldR v.ovd
  obtain ⟨s0, s1⟩ := fld_r v.ovs
  obtain ⟨d0, d1⟩ := fld_r v.ovd
  obtain ⟨r0, r1⟩ := v.reg
  have hn := v.num
  have hb := v.byte
  rw [ho] at hn hb
  have hn : 0 ≤ i.Num ∧ i.Num ≤ 63 := hn
  have hb : i.Byte = false := Bool.eq_false_iff.2 fun h => absurd (hb h) (by decide)
  unfold X.R06_first
  rw [ho, es, ed]
  simp only [X.R06_Islong, ge_iff_le, Int.reduceLE, decide_true, decide_false, cond_true, cond_false, Int.reduceBEq, Int.reduceSub, Int.reduceAdd, Int.reduceMul, off, Int.reduceEq, if_true, if_false, or_self, or_true, true_or, or_false, false_or]
  rw [hb]
  simp only [bb, cond_false]
  (try simp (disch := omega) only [wrap64, Int.tmod_eq_emod_of_nonneg]) <;> omega
theorem fs31 {i : M.Inst} (ho : i.Op = 26) (v : VI i) : X.R06_first i = 256 + bb i.Byte + off 9 i := by
  have es := fieldR v.ovs
  have ed := fieldR v.ovd
  obtain ⟨s0, s1⟩ := fld_r v.ovs
  obtain ⟨d0, d1⟩ := fld_r v.ovd
  obtain ⟨r0, r1⟩ := v.reg
  have hn := v.num
  have hb := v.byte
  rw [ho] at hn hb
  have hn : -128 ≤ i.Num ∧ i.Num ≤ 127 := hn
  have hb : i.Byte = false := Bool.eq_false_iff.2 fun h => absurd (hb h) (by decide)
  unfold X.R06_first
  rw [ho, es, ed]
  simp only [X.R06_Islong, ge_iff_le, Int.reduceLE, decide_true, decide_false, cond_true, cond_false, Int.reduceBEq, Int.reduceSub, Int.reduceAdd, Int.reduceMul, off, Int.reduceEq, if_true, if_false, or_self, or_true, true_or, or_false, false_or]
  rw [hb]
  simp only [bb, cond_false]
  (try simp (disch := omega) only [wrap64, Int.tmod_eq_emod_of_nonneg]) <;> omega
theorem fs32 {i : M.Inst} (ho : i.Op = 27) (v : VI i) : X.R06_first i = 512 + bb i.Byte + off 9 i := by
  have es := fieldR v.ovs
  have ed := fieldR v.ovd
  obtain ⟨s0, s1⟩ := fld_r v.ovs
  obtain ⟨d0, d1⟩ := fld_r v.ovd
  obtain ⟨r0, r1⟩ := v.reg
  have hn := v.num
  have hb := v.byte
  rw [ho] at hn hb
  have hn : -128 ≤ i.Num ∧ i.Num ≤ 127 := hn
  have hb : i.Byte = false := Bool.eq_false_iff.2 fun h => absurd (hb h) (by decide)
  unfold X.R06_first
  rw [ho, es, ed]
  simp only [X.R06_Islong, ge_iff_le, Int.reduceLE, decide_true, decide_false, cond_true, cond_false, Int.reduceBEq, Int.reduceSub, Int.reduceAdd, Int.reduceMul, off, Int.reduceEq, if_true, if_false, or_self, or_true, true_or, or_false, false_or]
  rw [hb]
  simp only [bb, cond_false]
  (try simp (disch := omega) only [wrap64, Int.tmod_eq_emod_of_nonneg]) <;> omega
theorem fs33 {i : M.Inst} (ho : i.Op = 28) (v : VI i) : X.R06_first i = 768 + bb i.Byte + off 9 i := by
  have es := fieldR v.ovs
  have ed := fieldR v.ovd
  obtain ⟨s0, s1⟩ := fld_r v.ovs
  obtain ⟨d0, d1⟩ := fld_r v.ovd
  obtain ⟨r0, r1⟩ := v.reg
  have hn := v.num
  have hb := v.byte
  rw [ho] at hn hb
  have hn : -128 ≤ i.Num ∧ i.Num ≤ 127 := hn
  have hb : i.Byte = false := Bool.eq_false_iff.2 fun h => absurd (hb h) (by decide)
  unfold X.R06_first
  rw [ho, es, ed]
  simp only [X.R06_Islong, ge_iff_le, Int.reduceLE, decide_true, decide_false, cond_true, cond_false, Int.reduceBEq, Int.reduceSub, Int.reduceAdd, Int.reduceMul, off, Int.reduceEq, if_true, if_false, or_self, or_true, true_or, or_false, false_or]
  rw [hb]
  simp only [bb, cond_false]
  (try simp (disch := omega) only [wrap64, Int.tmod_eq_emod_of_nonneg]) <;> omega
theorem fs34 {i : M.Inst} (ho : i.Op = 29) (v : VI i) : X.R06_first i = 1024 + bb i.Byte + off 9 i := by
  have es := fieldR v.ovs
  have ed := fieldR v.ovd
  obtain ⟨s0, s1⟩ := fld_r v.ovs
  obtain ⟨d0, d1⟩ := fld_r v.ovd
  obtain ⟨r0, r1⟩ := v.reg
  have hn := v.num
  have hb := v.byte
  rw [ho] at hn hb
  have hn : -128 ≤ i.Num ∧ i.Num ≤ 127 := hn
  have hb : i.Byte = false := Bool.eq_false_iff.2 fun h => absurd (hb h) (by decide)
  unfold X.R06_first
  rw [ho, es, ed]
  simp only [X.R06_Islong, ge_iff_le, Int.reduceLE, decide_true, decide_false, cond_true, cond_false, Int.reduceBEq, Int.reduceSub, Int.reduceAdd, Int.reduceMul, off, Int.reduceEq, if_true, if_false, or_self, or_true, true_or, or_false, false_or]
  rw [hb]
  simp only [bb, cond_false]
  (try simp (disch := omega) only [wrap64, Int.tmod_eq_emod_of_nonneg]) <;> omega
theorem fs35 {i : M.Inst} (ho : i.Op = 30) (v : VI i) : X.R06_first i = 1280 + bb i.Byte + off 9 i := by
  have es := fieldR v.ovs
  have ed := fieldR v.ovd
  obtain ⟨s0, s1⟩ := fld_r v.ovs
  obtain ⟨d0, d1⟩ := fld_r v.ovd
  obtain ⟨r0, r1⟩ := v.reg
  have hn := v.num
  have hb := v.byte
  rw [ho] at hn hb
  have hn : -128 ≤ i.Num ∧ i.Num ≤ 127 := hn
  have hb : i.Byte = false := Bool.eq_false_iff.2 fun h => absurd (hb h) (by decide)
  unfold X.R06_first
  rw [ho, es, ed]
  simp only [X.R06_Islong, ge_iff_le, Int.reduceLE, decide_true, decide_false, cond_true, cond_false, Int.reduceBEq, Int.reduceSub, Int.reduceAdd, Int.reduceMul, off, Int.reduceEq, if_true, if_false, or_self, or_true, true_or, or_false, false_or]
  rw [hb]
  simp only [bb, cond_false]
  (try simp (disch := omega) only [wrap64, Int.tmod_eq_emod_of_nonneg]) <;> omega
theorem fs36 {i : M.Inst} (ho : i.Op = 31) (v : VI i) : X.R06_first i = 1536 + bb i.Byte + off 9 i := by
  have es := fieldR v.ovs
  have ed := fieldR v.ovd
  obtain ⟨s0, s1⟩ := fld_r v.ovs
  obtain ⟨d0, d1⟩ := fld_r v.ovd
  obtain ⟨r0, r1⟩ := v.reg
  have hn := v.num
  have hb := v.byte
  rw [ho] at hn hb
  have hn : -128 ≤ i.Num ∧ i.Num ≤ 127 := hn
  have hb : i.Byte = false := Bool.eq_false_iff.2 fun h => absurd (hb h) (by decide)
  unfold X.R06_first
  rw [ho, es, ed]
  simp only [X.R06_Islong, ge_iff_le, Int.reduceLE, decide_true, decide_false, cond_true, cond_false, Int.reduceBEq, Int.reduceSub, Int.reduceAdd, Int.reduceMul, off, Int.reduceEq, if_true, if_false, or_self, or_true, true_or, or_false, false_or]
  rw [hb]
  simp only [bb, cond_false]
  (try simp (disch := omega) only [wrap64, Int.tmod_eq_emod_of_nonneg]) <;> omega
theorem fs37 {i : M.Inst} (ho : i.Op = 32) (v : VI i) : X.R06_first i = 1792 + bb i.Byte + off 9 i := by
  have es := fieldR v.ovs
  have ed := fieldR v.ovd
  obtain ⟨s0, s1⟩ := fld_r v.ovs
  obtain ⟨d0, d1⟩ := fld_r v.ovd
  obtain ⟨r0, r1⟩ := v.reg
  have hn := v.num
  have hb := v.byte
  rw [ho] at hn hb
  have hn : -128 ≤ i.Num ∧ i.Num ≤ 127 := hn
  have hb : i.Byte = false := Bool.eq_false_iff.2 fun h => absurd (hb h) (by decide)
  unfold X.R06_first
  rw [ho, es, ed]
  simp only [X.R06_Islong, ge_iff_le, Int.reduceLE, decide_true, decide_false, cond_true, cond_false, Int.reduceBEq, Int.reduceSub, Int.reduceAdd, Int.reduceMul, off, Int.reduceEq, if_true, if_false, or_self, or_true, true_or, or_false, false_or]
  rw [hb]
  simp only [bb, cond_false]
  (try simp (disch := omega) only [wrap64, Int.tmod_eq_emod_of_nonneg]) <;> omega
theorem fs38 {i : M.Inst} (ho : i.Op = 33) (v : VI i) : X.R06_first i = 32768 + bb i.Byte + off 9 i := by
  have es := fieldR v.ovs
  have ed := fieldR v.ovd
  obtain ⟨s0, s1⟩ := fld_r v.ovs
  obtain ⟨d0, d1⟩ := fld_r v.ovd
  obtain ⟨r0, r1⟩ := v.reg
  have hn := v.num
  have hb := v.byte
  rw [ho] at hn hb
  have hn : -128 ≤ i.Num ∧ i.Num ≤ 127 := hn
  have hb : i.Byte = false := Bool.eq_false_iff.2 fun h => absurd (hb h) (by decide)
  unfold X.R06_first
  rw [ho, es, ed]
  simp only [X.R06_Islong, ge_iff_le, Int.reduceLE, decide_true, decide_false, cond_true, cond_false, Int.reduceBEq, Int.reduceSub, Int.reduceAdd, Int.reduceMul, off, Int.reduceEq, if_true, if_false, or_self, or_true, true_or, or_false, false_or]
  rw [hb]
  simp only [bb, cond_false]
  (try simp (disch := omega) only [wrap64, Int.tmod_eq_emod_of_nonneg]) <;> omega
theorem fs39 {i : M.Inst} (ho : i.Op = 34) (v : VI i) : X.R06_first i = 33024 + bb i.Byte + off 9 i := by
  have es := fieldR v.ovs
  have ed := fieldR v.ovd
  obtain ⟨s0, s1⟩ := fld_r v.ovs
  obtain ⟨d0, d1⟩ := fld_r v.ovd
  obtain ⟨r0, r1⟩ := v.reg
  have hn := v.num
  have hb := v.byte
  rw [ho] at hn hb
  have hn : -128 ≤ i.Num ∧ i.Num ≤ 127 := hn
  have hb : i.Byte = false := Bool.eq_false_iff.2 fun h => absurd (hb h) (by decide)
  unfold X.R06_first
  rw [ho, es, ed]
  simp only [X.R06_Islong, ge_iff_le, Int.reduceLE, decide_true, decide_false, cond_true, cond_false, Int.reduceBEq, Int.reduceSub, Int.reduceAdd, Int.reduceMul, off, Int.reduceEq, if_true, if_false, or_self, or_true, true_or, or_false, false_or]
  rw [hb]
  simp only [bb, cond_false]
  (try simp (disch := omega) only [wrap64, Int.tmod_eq_emod_of_nonneg]) <;> omega
theorem fs40 {i : M.Inst} (ho : i.Op = 35) (v : VI i) : X.R06_first i = 33280 + bb i.Byte + off 9 i := by
  have es := fieldR v.ovs
  have ed := fieldR v.ovd
  obtain ⟨s0, s1⟩ := fld_r v.ovs
  obtain ⟨d0, d1⟩ := fld_r v.ovd
  obtain ⟨r0, r1⟩ := v.reg
  have hn := v.num
  have hb := v.byte
  rw [ho] at hn hb
  have hn : -128 ≤ i.Num ∧ i.Num ≤ 127 := hn
  have hb : i.Byte = false := Bool.eq_false_iff.2 fun h => absurd (hb h) (by decide)
  unfold X.R06_first
  rw [ho, es, ed]
  simp only [X.R06_Islong, ge_iff_le, Int.reduceLE, decide_true, decide_false, cond_true, cond_false, Int.reduceBEq, Int.reduceSub, Int.reduceAdd, Int.reduceMul, off, Int.reduceEq, if_true, if_false, or_self, or_true, true_or, or_false, false_or]
  rw [hb]
  simp only [bb, cond_false]
  (try simp (disch := omega) only [wrap64, Int.tmod_eq_emod_of_nonneg]) <;> omega
theorem fs41 {i : M.Inst} (ho : i.Op = 36) (v : VI i) : X.R06_first i = 33536 + bb i.Byte + off 9 i := by
  have es := fieldR v.ovs
  have ed := fieldR v.ovd
  obtain ⟨s0, s1⟩ := fld_r v.ovs
  obtain ⟨d0, d1⟩ := fld_r v.ovd
  obtain ⟨r0, r1⟩ := v.reg
  have hn := v.num
  have hb := v.byte
  rw [ho] at hn hb
  have hn : -128 ≤ i.Num ∧ i.Num ≤ 127 := hn
  have hb : i.Byte = false := Bool.eq_false_iff.2 fun h => absurd (hb h) (by decide)
  unfold X.R06_first
  rw [ho, es, ed]
  simp only [X.R06_Islong, ge_iff_le, Int.reduceLE, decide_true, decide_false, cond_true, cond_false, Int.reduceBEq, Int.reduceSub, Int.reduceAdd, Int.reduceMul, off, Int.reduceEq, if_true, if_false, or_self, or_true, true_or, or_false, false_or]
  rw [hb]
  simp only [bb, cond_false]
  (try simp (disch := omega) only [wrap64, Int.tmod_eq_emod_of_nonneg]) <;> omega
theorem fs42 {i : M.Inst} (ho : i.Op = 37) (v : VI i) : X.R06_first i = 33792 + bb i.Byte + off 9 i := by
  have es := fieldR v.ovs
  have ed := fieldR v.ovd
  obtain ⟨s0, s1⟩ := fld_r v.ovs
  obtain ⟨d0, d1⟩ := fld_r v.ovd
  obtain ⟨r0, r1⟩ := v.reg
  have hn := v.num
  have hb := v.byte
  rw [ho] at hn hb
  have hn : -128 ≤ i.Num ∧ i.Num ≤ 127 := hn
  have hb : i.Byte = false := Bool.eq_false_iff.2 fun h => absurd (hb h) (by decide)
  unfold X.R06_first
  rw [ho, es, ed]
  simp only [X.R06_Islong, ge_iff_le, Int.reduceLE, decide_true, decide_false, cond_true, cond_false, Int.reduceBEq, Int.reduceSub, Int.reduceAdd, Int.reduceMul, off, Int.reduceEq, if_true, if_false, or_self, or_true, true_or, or_false, false_or]
  rw [hb]
  simp only [bb, cond_false]
  (try simp (disch := omega) only [wrap64, Int.tmod_eq_emod_of_nonneg]) <;> omega
theorem fs43 {i : M.Inst} (ho : i.Op = 38) (v : VI i) : X.R06_first i = 34048 + bb i.Byte + off 9 i := by
  have es := fieldR v.ovs
  have ed := fieldR v.ovd
  obtain ⟨s0, s1⟩ := fld_r v.ovs
  obtain ⟨d0, d1⟩ := fld_r v.ovd
  obtain ⟨r0, r1⟩ := v.reg
  have hn := v.num
  have hb := v.byte
  rw [ho] at hn hb
  have hn : -128 ≤ i.Num ∧ i.Num ≤ 127 := hn
  have hb : i.Byte = false := Bool.eq_false_iff.2 fun h => absurd (hb h) (by decide)
  unfold X.R06_first
  rw [ho, es, ed]
  simp only [X.R06_Islong, ge_iff_le, Int.reduceLE, decide_true, decide_false, cond_true, cond_false, Int.reduceBEq, Int.reduceSub, Int.reduceAdd, Int.reduceMul, off, Int.reduceEq, if_true, if_false, or_self, or_true, true_or, or_false, false_or]
  rw [hb]
  simp only [bb, cond_false]
  (try simp (disch := omega) only [wrap64, Int.tmod_eq_emod_of_nonneg]) <;> omega
theorem fs44 {i : M.Inst} (ho : i.Op = 39) (v : VI i) : X.R06_first i = 34304 + bb i.Byte + off 9 i := by
  have es := fieldR v.ovs
  have ed := fieldR v.ovd
  obtain ⟨s0, s1⟩ := fld_r v.ovs
  obtain ⟨d0, d1⟩ := fld_r v.ovd
  obtain ⟨r0, r1⟩ := v.reg
  have hn := v.num
  have hb := v.byte
  rw [ho] at hn hb
  have hn : -128 ≤ i.Num ∧ i.Num ≤ 127 := hn
  have hb : i.Byte = false := Bool.eq_false_iff.2 fun h => absurd (hb h) (by decide)
  unfold X.R06_first
  rw [ho, es, ed]
  simp only [X.R06_Islong, ge_iff_le, Int.reduceLE, decide_true, decide_false, cond_true, cond_false, Int.reduceBEq, Int.reduceSub, Int.reduceAdd, Int.reduceMul, off, Int.reduceEq, if_true, if_false, or_self, or_true, true_or, or_false, false_or]
  rw [hb]
  simp only [bb, cond_false]
  (try simp (disch := omega) only [wrap64, Int.tmod_eq_emod_of_nonneg]) <;> omega
theorem fs45 {i : M.Inst} (ho : i.Op = 40) (v : VI i) : X.R06_first i = 34560 + bb i.Byte + off 9 i := by
  have es := fieldR v.ovs
  have ed := fieldR v.ovd
  obtain ⟨s0, s1⟩ := fld_r v.ovs
  obtain ⟨d0, d1⟩ := fld_r v.ovd
  obtain ⟨r0, r1⟩ := v.reg
  have hn := v.num
  have hb := v.byte
  rw [ho] at hn hb
  have hn : -128 ≤ i.Num ∧ i.Num ≤ 127 := hn
  have hb : i.Byte = false := Bool.eq_false_iff.2 fun h => absurd (hb h) (by decide)
  unfold X.R06_first
  rw [ho, es, ed]
  simp only [X.R06_Islong, ge_iff_le, Int.reduceLE, decide_true, decide_false, cond_true, cond_false, Int.reduceBEq, Int.reduceSub, Int.reduceAdd, Int.reduceMul, off, Int.reduceEq, if_true, if_false, or_self, or_true, true_or, or_false, false_or]
  rw [hb]
  simp only [bb, cond_false]
  (try simp (disch := omega) only [wrap64, Int.tmod_eq_emod_of_nonneg]) <;> omega
theorem fs46 {i : M.Inst} (ho : i.Op = 45) (v : VI i) : X.R06_first i = 34816 + bb i.Byte + off 11 i := by
  have es := fieldR v.ovs
  have ed := fieldR v.ovd
  obtain ⟨s0, s1⟩ := fld_r v.ovs
  obtain ⟨d0, d1⟩ := fld_r v.ovd
  obtain ⟨r0, r1⟩ := v.reg
  have hn := v.num
  have hb := v.byte
  rw [ho] at hn hb
  have hn : 0 ≤ i.Num ∧ i.Num ≤ 255 := hn
  have hb : i.Byte = false := Bool.eq_false_iff.2 fun h => absurd (hb h) (by decide)
  unfold X.R06_first
  rw [ho, es, ed]
  simp only [X.R06_Islong, ge_iff_le, Int.reduceLE, decide_true, decide_false, cond_true, cond_false, Int.reduceBEq, Int.reduceSub, Int.reduceAdd, Int.reduceMul, off, Int.reduceEq, if_true, if_false, or_self, or_true, true_or, or_false, false_or]
  rw [hb]
  simp only [bb, cond_false]
  (try simp (disch := omega) only [wrap64, Int.tmod_eq_emod_of_nonneg]) <;> omega
theorem fs47 {i : M.Inst} (ho : i.Op = 46) (v : VI i) : X.R06_first i = 35072 + bb i.Byte + off 11 i := by
  have es := fieldR v.ovs
  have ed := fieldR v.ovd
  obtain ⟨s0, s1⟩ := fld_r v.ovs
  obtain ⟨d0, d1⟩ := fld_r v.ovd
  obtain ⟨r0, r1⟩ := v.reg
  have hn := v.num
  have hb := v.byte
  rw [ho] at hn hb
  have hn : 0 ≤ i.Num ∧ i.Num ≤ 255 := hn
  have hb : i.Byte = false := Bool.eq_false_iff.2 fun h => absurd (hb h) (by decide)
  unfold X.R06_first
  rw [ho, es, ed]
  simp only [X.R06_Islong, ge_iff_le, Int.reduceLE, decide_true, decide_false, cond_true, cond_false, Int.reduceBEq, Int.reduceSub, Int.reduceAdd, Int.reduceMul, off, Int.reduceEq, if_true, if_false, or_self, or_true, true_or, or_false, false_or]
  rw [hb]
  simp only [bb, cond_false]
  (try simp (disch := omega) only [wrap64, Int.tmod_eq_emod_of_nonneg]) <;> omega
theorem fs48 {i : M.Inst} (ho : i.Op = 53) (v : VI i) : X.R06_first i = 160 + bb i.Byte + off 12 i := by
  have es := fieldR v.ovs
  have ed := fieldR v.ovd
  obtain ⟨s0, s1⟩ := fld_r v.ovs
  obtain ⟨d0, d1⟩ := fld_r v.ovd
  obtain ⟨r0, r1⟩ := v.reg
  have hn := v.num
  have hb := v.byte
  rw [ho] at hn hb
  have hn : 0 ≤ i.Num ∧ i.Num ≤ 15 := hn
  have hb : i.Byte = false := Bool.eq_false_iff.2 fun h => absurd (hb h) (by decide)
  unfold X.R06_first
  rw [ho, es, ed]
  simp only [X.R06_Islong, ge_iff_le, Int.reduceLE, decide_true, decide_false, cond_true, cond_false, Int.reduceBEq, Int.reduceSub, Int.reduceAdd, Int.reduceMul, off, Int.reduceEq, if_true, if_false, or_self, or_true, true_or, or_false, false_or]
  rw [hb]
  simp only [bb, cond_false]
  (try simp (disch := omega) only [wrap64, Int.tmod_eq_emod_of_nonneg]) <;> omega
theorem fs49 {i : M.Inst} (ho : i.Op = 54) (v : VI i) : X.R06_first i = 176 + bb i.Byte + off 12 i := by
  have es := fieldR v.ovs
  have ed := fieldR v.ovd
  obtain ⟨s0, s1⟩ := fld_r v.ovs
  obtain ⟨d0, d1⟩ := fld_r v.ovd
  obtain ⟨r0, r1⟩ := v.reg
  have hn := v.num
  have hb := v.byte
  rw [ho] at hn hb
  have hn : 0 ≤ i.Num ∧ i.Num ≤ 15 := hn
  have hb : i.Byte = false := Bool.eq_false_iff.2 fun h => absurd (hb h) (by decide)
  unfold X.R06_first
  rw [ho, es, ed]
  simp only [X.R06_Islong, ge_iff_le, Int.reduceLE, decide_true, decide_false, cond_true, cond_false, Int.reduceBEq, Int.reduceSub, Int.reduceAdd, Int.reduceMul, off, Int.reduceEq, if_true, if_false, or_self, or_true, true_or, or_false, false_or]
  rw [hb]
  simp only [bb, cond_false]
  (try simp (disch := omega) only [wrap64, Int.tmod_eq_emod_of_nonneg]) <;> omega
theorem fs50 {i : M.Inst} (ho : i.Op = 50) (v : VI i) : X.R06_first i = 0 + bb i.Byte + off 0 i := by
  have es := fieldR v.ovs
  have ed := fieldR v.ovd
  obtain ⟨s0, s1⟩ := fld_r v.ovs
  obtain ⟨d0, d1⟩ := fld_r v.ovd
  obtain ⟨r0, r1⟩ := v.reg
  have hn := v.num
  have hb := v.byte
  rw [ho] at hn hb
  have hn : 0 ≤ i.Num ∧ i.Num ≤ 0 := hn
  have hb : i.Byte = false := Bool.eq_false_iff.2 fun h => absurd (hb h) (by decide)
  unfold X.R06_first
  rw [ho, es, ed]
  simp only [X.R06_Islong, ge_iff_le, Int.reduceLE, decide_true, decide_false, cond_true, cond_false, Int.reduceBEq, Int.reduceSub, Int.reduceAdd, Int.reduceMul, off, Int.reduceEq, if_true, if_false, or_self, or_true, true_or, or_false, false_or]
  rw [hb]
  simp only [bb, cond_false]
  (try simp (disch := omega) only [wrap64, Int.tmod_eq_emod_of_nonneg]) <;> omega
theorem fs51 {i : M.Inst} (ho : i.Op = 51) (v : VI i) : X.R06_first i = 1 + bb i.Byte + off 0 i := by
  have es := fieldR v.ovs
  have ed := fieldR v.ovd
  obtain ⟨s0, s1⟩ := fld_r v.ovs
  obtain ⟨d0, d1⟩ := fld_r v.ovd
  obtain ⟨r0, r1⟩ := v.reg
  have hn := v.num
  have hb := v.byte
  rw [ho] at hn hb
  have hn : 0 ≤ i.Num ∧ i.Num ≤ 0 := hn
  have hb : i.Byte = false := Bool.eq_false_iff.2 fun h => absurd (hb h) (by decide)
  unfold X.R06_first
  rw [ho, es, ed]
  simp only [X.R06_Islong, ge_iff_le, Int.reduceLE, decide_true, decide_false, cond_true, cond_false, Int.reduceBEq, Int.reduceSub, Int.reduceAdd, Int.reduceMul, off, Int.reduceEq, if_true, if_false, or_self, or_true, true_or, or_false, false_or]
  rw [hb]
  simp only [bb, cond_false]
  (try simp (disch := omega) only [wrap64, Int.tmod_eq_emod_of_nonneg]) <;> omega
theorem fs52 {i : M.Inst} (ho : i.Op = 49) (v : VI i) : X.R06_first i = 2 + bb i.Byte + off 0 i := by
  have es := fieldR v.ovs
  have ed := fieldR v.ovd
  obtain ⟨s0, s1⟩ := fld_r v.ovs
  obtain ⟨d0, d1⟩ := fld_r v.ovd
  obtain ⟨r0, r1⟩ := v.reg
  have hn := v.num
  have hb := v.byte
  rw [ho] at hn hb
  have hn : 0 ≤ i.Num ∧ i.Num ≤ 0 := hn
  have hb : i.Byte = false := Bool.eq_false_iff.2 fun h => absurd (hb h) (by decide)
  unfold X.R06_first
  rw [ho, es, ed]
  simp only [X.R06_Islong, ge_iff_le, Int.reduceLE, decide_true, decide_false, cond_true, cond_false, Int.reduceBEq, Int.reduceSub, Int.reduceAdd, Int.reduceMul, off, Int.reduceEq, if_true, if_false, or_self, or_true, true_or, or_false, false_or]
  rw [hb]
  simp only [bb, cond_false]
  (try simp (disch := omega) only [wrap64, Int.tmod_eq_emod_of_nonneg]) <;> omega
theorem fs53 {i : M.Inst} (ho : i.Op = 47) (v : VI i) : X.R06_first i = 3 + bb i.Byte + off 0 i := by
  have es := fieldR v.ovs
  have ed := fieldR v.ovd
  obtain ⟨s0, s1⟩ := fld_r v.ovs
  obtain ⟨d0, d1⟩ := fld_r v.ovd
  obtain ⟨r0, r1⟩ := v.reg
  have hn := v.num
  have hb := v.byte
  rw [ho] at hn hb
  have hn : 0 ≤ i.Num ∧ i.Num ≤ 0 := hn
  have hb : i.Byte = false := Bool.eq_false_iff.2 fun h => absurd (hb h) (by decide)
  unfold X.R06_first
  rw [ho, es, ed]
  simp only [X.R06_Islong, ge_iff_le, Int.reduceLE, decide_true, decide_false, cond_true, cond_false, Int.reduceBEq, Int.reduceSub, Int.reduceAdd, Int.reduceMul, off, Int.reduceEq, if_true, if_false, or_self, or_true, true_or, or_false, false_or]
  rw [hb]
  simp only [bb, cond_false]
  (try simp (disch := omega) only [wrap64, Int.tmod_eq_emod_of_nonneg]) <;> omega
theorem fs54 {i : M.Inst} (ho : i.Op = 48) (v : VI i) : X.R06_first i = 4 + bb i.Byte + off 0 i := by
  have es := fieldR v.ovs
  have ed := fieldR v.ovd
  obtain ⟨s0, s1⟩ := fld_r v.ovs
  obtain ⟨d0, d1⟩ := fld_r v.ovd
  obtain ⟨r0, r1⟩ := v.reg
  have hn := v.num
  have hb := v.byte
  rw [ho] at hn hb
  have hn : 0 ≤ i.Num ∧ i.Num ≤ 0 := hn
  have hb : i.Byte = false := Bool.eq_false_iff.2 fun h => absurd (hb h) (by decide)
  unfold X.R06_first
  rw [ho, es, ed]
  simp only [X.R06_Islong, ge_iff_le, Int.reduceLE, decide_true, decide_false, cond_true, cond_false, Int.reduceBEq, Int.reduceSub, Int.reduceAdd, Int.reduceMul, off, Int.reduceEq, if_true, if_false, or_self, or_true, true_or, or_false, false_or]
  rw [hb]
  simp only [bb, cond_false]
  (try simp (disch := omega) only [wrap64, Int.tmod_eq_emod_of_nonneg]) <;> omega
theorem fs55 {i : M.Inst} (ho : i.Op = 52) (v : VI i) : X.R06_first i = 5 + bb i.Byte + off 0 i := by
  have es := fieldR v.ovs
  have ed := fieldR v.ovd
  obtain ⟨s0, s1⟩ := fld_r v.ovs
  obtain ⟨d0, d1⟩ := fld_r v.ovd
  obtain ⟨r0, r1⟩ := v.reg
  have hn := v.num
  have hb := v.byte
  rw [ho] at hn hb
  have hn : 0 ≤ i.Num ∧ i.Num ≤ 0 := hn
  have hb : i.Byte = false := Bool.eq_false_iff.2 fun h => absurd (hb h) (by decide)
  unfold X.R06_first
  rw [ho, es, ed]
  simp only [X.R06_Islong, ge_iff_le, Int.reduceLE, decide_true, decide_false, cond_true, cond_false, Int.reduceBEq, Int.reduceSub, Int.reduceAdd, Int.reduceMul, off, Int.reduceEq, if_true, if_false, or_self, or_true, true_or, or_false, false_or]
  rw [hb]
  simp only [bb, cond_false]
  (try simp (disch := omega) only [wrap64, Int.tmod_eq_emod_of_nonneg]) <;> omega
def FP (f : M.Inst_form) : Prop := ∀ i : M.Inst, i.Op = f.op → VI i → X.R06_first i = f.first + bb i.Byte + off f.shape i
theorem fs_all : ∀ f ∈ forms, FP f := by
  unfold forms
  exact List.forall_mem_cons.2 ⟨(fun _ h v => fs0 h v), List.forall_mem_cons.2 ⟨(fun _ h v => fs1 h v), List.forall_mem_cons.2 ⟨(fun _ h v => fs2 h v), List.forall_mem_cons.2 ⟨(fun _ h v => fs3 h v), List.forall_mem_cons.2 ⟨(fun _ h v => fs4 h v), List.forall_mem_cons.2 ⟨(fun _ h v => fs5 h v), List.forall_mem_cons.2 ⟨(fun _ h v => fs6 h v), List.forall_mem_cons.2 ⟨(fun _ h v => fs7 h v), List.forall_mem_cons.2 ⟨(fun _ h v => fs8 h v), List.forall_mem_cons.2 ⟨(fun _ h v => fs9 h v), List.forall_mem_cons.2 ⟨(fun _ h v => fs10 h v), List.forall_mem_cons.2 ⟨(fun _ h v => fs11 h v), List.forall_mem_cons.2 ⟨(fun _ h v => fs12 h v), List.forall_mem_cons.2 ⟨(fun _ h v => fs13 h v), List.forall_mem_cons.2 ⟨(fun _ h v => fs14 h v), List.forall_mem_cons.2 ⟨(fun _ h v => fs15 h v), List.forall_mem_cons.2 ⟨(fun _ h v => fs16 h v), List.forall_mem_cons.2 ⟨(fun _ h v => fs17 h v), List.forall_mem_cons.2 ⟨(fun _ h v => fs18 h v), List.forall_mem_cons.2 ⟨(fun _ h v => fs19 h v), List.forall_mem_cons.2 ⟨(fun _ h v => fs20 h v), List.forall_mem_cons.2 ⟨(fun _ h v => fs21 h v), List.forall_mem_cons.2 ⟨(fun _ h v => fs22 h v), List.forall_mem_cons.2 ⟨(fun _ h v => fs23 h v), List.forall_mem_cons.2 ⟨(fun _ h v => fs24 h v), List.forall_mem_cons.2 ⟨(fun _ h v => fs25 h v), List.forall_mem_cons.2 ⟨(fun _ h v => fs26 h v), List.forall_mem_cons.2 ⟨(fun _ h v => fs27 h v), List.forall_mem_cons.2 ⟨(fun _ h v => fs28 h v), List.forall_mem_cons.2 ⟨(fun _ h v => fs29 h v), List.forall_mem_cons.2 ⟨(fun _ h v => fs30 h v), List.forall_mem_cons.2 ⟨(fun _ h v => fs31 h v), List.forall_mem_cons.2 ⟨(fun _ h v => fs32 h v), List.forall_mem_cons.2 ⟨(fun _ h v => fs33 h v), List.forall_mem_cons.2 ⟨(fun _ h v => fs34 h v), List.forall_mem_cons.2 ⟨(fun _ h v => fs35 h v), List.forall_mem_cons.2 ⟨(fun _ h v => fs36 h v), List.forall_mem_cons.2 ⟨(fun _ h v => fs37 h v), List.forall_mem_cons.2 ⟨(fun _ h v => fs38 h v), List.forall_mem_cons.2 ⟨(fun _ h v => fs39 h v), List.forall_mem_cons.2 ⟨(fun _ h v => fs40 h v), List.forall_mem_cons.2 ⟨(fun _ h v => fs41 h v), List.forall_mem_cons.2 ⟨(fun _ h v => fs42 h v), List.forall_mem_cons.2 ⟨(fun _ h v => fs43 h v), List.forall_mem_cons.2 ⟨(fun _ h v => fs44 h v), List.forall_mem_cons.2 ⟨(fun _ h v => fs45 h v), List.forall_mem_cons.2 ⟨(fun _ h v => fs46 h v), List.forall_mem_cons.2 ⟨(fun _ h v => fs47 h v), List.forall_mem_cons.2 ⟨(fun _ h v => fs48 h v), List.forall_mem_cons.2 ⟨(fun _ h v => fs49 h v), List.forall_mem_cons.2 ⟨(fun _ h v => fs50 h v), List.forall_mem_cons.2 ⟨(fun _ h v => fs51 h v), List.forall_mem_cons.2 ⟨(fun _ h v => fs52 h v), List.forall_mem_cons.2 ⟨(fun _ h v => fs53 h v), List.forall_mem_cons.2 ⟨(fun _ h v => fs54 h v), List.forall_mem_cons.2 ⟨(fun _ h v => fs55 h v), fun _ h => absurd h List.not_mem_nil⟩⟩⟩⟩⟩⟩⟩⟩⟩⟩⟩⟩⟩⟩⟩⟩⟩⟩⟩⟩⟩⟩⟩⟩⟩⟩⟩⟩⟩⟩⟩⟩⟩⟩⟩⟩⟩⟩⟩⟩⟩⟩⟩⟩⟩⟩⟩⟩⟩⟩⟩⟩⟩⟩⟩⟩
end PL
end Go.Proofs.Ytnonimnhninafaa.Ab

/- The words of a valid instruction are decoded back to it. -/
namespace Go.Proofs.Ytnonimnhninafaa.Ab
open Go
set_option linter.unusedVariables false
set_option linter.unusedSimpArgs false
namespace PL
set_option maxRecDepth 100000

def z0 (o : M.Operand) : M.Operand := ⟨o.Mode, o.Reg, 0⟩

theorem off_r {f : M.Inst_form} (t : TF f) {i : M.Inst} (v : VI i) (ho : f.op = i.Op) : 0 ≤ off f.shape i ∧ off f.shape i < bitS f.shape := by
  have hs := fld_r v.ovs
  have hd := fld_r v.ovd
  have hr := v.reg
  have hn := v.num
  rw [← ho, t.lo, t.hi] at hn
  have ht := t.shape
  have hc : f.shape = 0 ∨ f.shape = 1 ∨ f.shape = 2 ∨ f.shape = 3 ∨ f.shape = 4 ∨ f.shape = 5 ∨ f.shape = 6 ∨ f.shape = 7 ∨ f.shape = 8 ∨ f.shape = 9 ∨ f.shape = 10 ∨ f.shape = 11 ∨ f.shape = 12 := by omega
  rcases hc with h | h | h | h | h | h | h | h | h | h | h | h | h <;> rw [h] at hn ⊢ <;>
    simp only [off, bitS, loS, hiS, Int.reduceEq, if_true, if_false, or_self, or_true, true_or, or_false, false_or] at hn ⊢ <;> omega

/-- The parts of an instruction that a form has not are nought. -/
theorem src0 {f : M.Inst_form} (t : TF f) {i : M.Inst} (v : VI i) (ho : f.op = i.Op) (h : srcS f.shape = false) : i.Src = ⟨0, 0, 0⟩ := by
  rcases v.src with ⟨k, _⟩ | ⟨_, k⟩
  · rw [← ho, t.src, h] at k; cases k
  · exact k
theorem dst0 {f : M.Inst_form} (t : TF f) {i : M.Inst} (v : VI i) (ho : f.op = i.Op) (h : dstS f.shape = false) : i.Dst = ⟨0, 0, 0⟩ := by
  rcases v.dst with ⟨k, _⟩ | ⟨_, k⟩
  · rw [← ho, t.dst, h] at k; cases k
  · exact k
theorem reg0 {f : M.Inst_form} (t : TF f) {i : M.Inst} (v : VI i) (ho : f.op = i.Op) (h : regS f.shape = false) : i.Reg = 0 := by
  rcases v.reg2 with k | k
  · exact k
  · rw [← ho, t.reg, h] at k; cases k

theorem hitE {f : M.Inst_form} (t : TF f) {w : Int} (h0 : 0 ≤ w) (h1 : w < 65536) {F q : Int} (hw : w = F + q) (hF : F % bitS f.shape = 0) (hq : 0 ≤ q ∧ q < bitS f.shape) : hit f w = F := by
  unfold hit
  rw [show IntKind.bits IntKind.i64 = 64 from rfl, t.bits]
  have hb : 0 < bitS f.shape := by omega
  have hb2 : bitS f.shape ≤ 4096 := by unfold bitS; repeat' split <;> omega
  rw [Int.fdiv_eq_ediv_of_nonneg _ (by omega)]
  have e : w / bitS f.shape * bitS f.shape = F := by
    have h2 : (F + q) / bitS f.shape = F / bitS f.shape := by
      rw [Int.add_ediv_of_dvd_left (Int.dvd_of_emod_eq_zero hF), Int.ediv_eq_zero_of_lt hq.1 hq.2, Int.add_zero]
    rw [hw, h2]
    exact Int.ediv_mul_cancel (Int.dvd_of_emod_eq_zero hF)
  rw [e]
  exact wrap64 (by omega) (by omega)

theorem frmE {o : M.Operand} (h : OV o) {x : Int} (k : Int) (hx : x = 64 * k + fld o) : frm x = z0 o := by
  have h1 := h.mode
  have h2 := h.reg
  unfold frm z0
  unfold fld at hx
  congr 1 <;> omega
theorem or_first {f : M.Inst_form} (t : TF f) {i : M.Inst} (v : VI i) (ho : f.op = i.Op) : (bif i.Byte then bitOf BinOp.or IntKind.i64 f.first 32768 else f.first) = f.first + bb i.Byte ∧ 0 ≤ f.first + bb i.Byte ∧ f.first + bb i.Byte + bitS f.shape ≤ 65536 ∧ (f.first + bb i.Byte) % bitS f.shape = 0 := by
  have h := t.first
  cases hb : i.Byte with
  | false => simp only [bb, cond_false, Int.add_zero]; exact ⟨trivial, h⟩
  | true =>
    have k := v.byte hb
    rw [← ho, t.byte] at k
    obtain ⟨k1, k2, k3⟩ := t.bytes k
    simp only [bb, cond_true]
    refine ⟨k3, by omega, by omega, ?_⟩
    rw [Int.add_emod, h.2.2, k2]; simp
section
variable {F n o op r m : Int} {y : Bool} {s d : M.Operand}
theorem W0 : X.inst_form_word ⟨F, n, o, 0, y⟩ ⟨op, false, s, d, r, m⟩ = bitOf BinOp.or IntKind.i64 (bitOf BinOp.or IntKind.i64 F (X.operand_Field d)) m := by kernel_rfl
theorem W1 : X.inst_form_word ⟨F, n, o, 1, y⟩ ⟨op, false, s, d, r, m⟩ = bitOf BinOp.or IntKind.i64 (bitOf BinOp.or IntKind.i64 F (IntKind.wrap IntKind.i64 (X.operand_Field s * 64))) (X.operand_Field d) := by kernel_rfl
theorem W2 : X.inst_form_word ⟨F, n, o, 2, y⟩ ⟨op, false, s, d, r, m⟩ = bitOf BinOp.or IntKind.i64 F (X.operand_Field s) := by kernel_rfl
theorem W3 : X.inst_form_word ⟨F, n, o, 3, y⟩ ⟨op, false, s, d, r, m⟩ = bitOf BinOp.or IntKind.i64 (bitOf BinOp.or IntKind.i64 F (X.operand_Field d)) m := by kernel_rfl
theorem W4 : X.inst_form_word ⟨F, n, o, 4, y⟩ ⟨op, false, s, d, r, m⟩ = bitOf BinOp.or IntKind.i64 (bitOf BinOp.or IntKind.i64 F (X.operand_Field d)) m := by kernel_rfl
theorem W5 : X.inst_form_word ⟨F, n, o, 5, y⟩ ⟨op, false, s, d, r, m⟩ = bitOf BinOp.or IntKind.i64 (bitOf BinOp.or IntKind.i64 F (IntKind.wrap IntKind.i64 (r * 64))) (X.operand_Field s) := by kernel_rfl
theorem W6 : X.inst_form_word ⟨F, n, o, 6, y⟩ ⟨op, false, s, d, r, m⟩ = bitOf BinOp.or IntKind.i64 (bitOf BinOp.or IntKind.i64 (bitOf BinOp.or IntKind.i64 F (IntKind.wrap IntKind.i64 (r * 64))) (X.operand_Field d)) m := by kernel_rfl
theorem W7 : X.inst_form_word ⟨F, n, o, 7, y⟩ ⟨op, false, s, d, r, m⟩ = bitOf BinOp.or IntKind.i64 (bitOf BinOp.or IntKind.i64 (bitOf BinOp.or IntKind.i64 F (IntKind.wrap IntKind.i64 (r * 64))) (X.operand_Field d)) m := by kernel_rfl
theorem W8 : X.inst_form_word ⟨F, n, o, 8, y⟩ ⟨op, false, s, d, r, m⟩ = bitOf BinOp.or IntKind.i64 F r := by kernel_rfl
theorem W9 : X.inst_form_word ⟨F, n, o, 9, y⟩ ⟨op, false, s, d, r, m⟩ = bitOf BinOp.or IntKind.i64 F (bitOf BinOp.and IntKind.i64 m 255) := by kernel_rfl
theorem W10 : X.inst_form_word ⟨F, n, o, 10, y⟩ ⟨op, false, s, d, r, m⟩ = bitOf BinOp.or IntKind.i64 (bitOf BinOp.or IntKind.i64 F (IntKind.wrap IntKind.i64 (r * 64))) m := by kernel_rfl
theorem W11 : X.inst_form_word ⟨F, n, o, 11, y⟩ ⟨op, false, s, d, r, m⟩ = bitOf BinOp.or IntKind.i64 (bitOf BinOp.or IntKind.i64 F (X.operand_Field d)) m := by kernel_rfl
theorem W12 : X.inst_form_word ⟨F, n, o, 12, y⟩ ⟨op, false, s, d, r, m⟩ = bitOf BinOp.or IntKind.i64 (bitOf BinOp.or IntKind.i64 F (X.operand_Field d)) m := by kernel_rfl
end
theorem or0 {x : Int} (h0 : 0 ≤ x) (h1 : x < 65536) : bitOf BinOp.or IntKind.i64 x 0 = x := by
  show IntKind.i64.wrap ((BitVec.ofInt IntKind.i64.bits x ||| BitVec.ofInt IntKind.i64.bits 0).toNat) = x
  have e : (BitVec.ofInt IntKind.i64.bits x ||| BitVec.ofInt IntKind.i64.bits 0) = BitVec.ofInt IntKind.i64.bits x := by
    rw [show BitVec.ofInt IntKind.i64.bits 0 = 0#_ from rfl, BitVec.or_zero]
  rw [e, BitVec.toNat_ofInt, Int.emod_eq_of_lt h0 (by simp only [IntKind.bits]; omega)]
  rw [Int.toNat_of_nonneg h0]
  exact wrap64 (by omega) (by omega)
theorem f0 : X.operand_Field ⟨0, 0, 0⟩ = 0 := (fieldP ov0).trans rfl
section
variable {F n o op r m : Int} {y : Bool} {s d : M.Operand}
theorem V0 (e2 : 0 ≤ F) (e3 : F + bitS 0 ≤ 65536) (e4 : F % bitS 0 = 0) (hs : 0 ≤ fld s ∧ fld s < 64) (hd : 0 ≤ fld d ∧ fld d < 64) (hr : 0 ≤ r ∧ r ≤ 7) (hn : loS 0 ≤ m ∧ m ≤ hiS 0) (es : X.operand_Field s = fld s) (ed : X.operand_Field d = fld d) (d0 : dstS 0 = false → d = ⟨0, 0, 0⟩) : X.inst_form_word ⟨F, n, o, 0, y⟩ ⟨op, false, s, d, r, m⟩ = F + off 0 ⟨op, false, s, d, r, m⟩ := by
  simp only [off, bitS, loS, hiS, Int.reduceEq, if_true, if_false, or_self, or_true, true_or, or_false, false_or] at hn e3 e4 ⊢
  rw [W0, d0 rfl, f0, or0 e2 (by omega), show m = 0 by omega, or0 e2 (by omega)] <;> omega
theorem V1 (e2 : 0 ≤ F) (e3 : F + bitS 1 ≤ 65536) (e4 : F % bitS 1 = 0) (hs : 0 ≤ fld s ∧ fld s < 64) (hd : 0 ≤ fld d ∧ fld d < 64) (hr : 0 ≤ r ∧ r ≤ 7) (hn : loS 1 ≤ m ∧ m ≤ hiS 1) (es : X.operand_Field s = fld s) (ed : X.operand_Field d = fld d) (d0 : dstS 1 = false → d = ⟨0, 0, 0⟩) : X.inst_form_word ⟨F, n, o, 1, y⟩ ⟨op, false, s, d, r, m⟩ = F + off 1 ⟨op, false, s, d, r, m⟩ := by
  simp only [off, bitS, loS, hiS, Int.reduceEq, if_true, if_false, or_self, or_true, true_or, or_false, false_or] at hn e3 e4 ⊢
  rw [W1, es, ed, wrap64 (by omega) (by omega), or_add 12 (x := F) (y := fld s * 64) (by omega) (by omega) (by first | (simp; done) | (simp; omega)) (by omega) (by first | (simp; done) | (simp; omega)) (by omega), or_add 6 (x := F + fld s * 64) (y := fld d) (by omega) (by omega) (by first | (simp; done) | (simp; omega)) (by omega) (by first | (simp; done) | (simp; omega)) (by omega)] <;> omega
theorem V2 (e2 : 0 ≤ F) (e3 : F + bitS 2 ≤ 65536) (e4 : F % bitS 2 = 0) (hs : 0 ≤ fld s ∧ fld s < 64) (hd : 0 ≤ fld d ∧ fld d < 64) (hr : 0 ≤ r ∧ r ≤ 7) (hn : loS 2 ≤ m ∧ m ≤ hiS 2) (es : X.operand_Field s = fld s) (ed : X.operand_Field d = fld d) (d0 : dstS 2 = false → d = ⟨0, 0, 0⟩) : X.inst_form_word ⟨F, n, o, 2, y⟩ ⟨op, false, s, d, r, m⟩ = F + off 2 ⟨op, false, s, d, r, m⟩ := by
  simp only [off, bitS, loS, hiS, Int.reduceEq, if_true, if_false, or_self, or_true, true_or, or_false, false_or] at hn e3 e4 ⊢
  rw [W2, es, or_add 6 (x := F) (y := fld s) (by omega) (by omega) (by first | (simp; done) | (simp; omega)) (by omega) (by first | (simp; done) | (simp; omega)) (by omega)]
theorem V3 (e2 : 0 ≤ F) (e3 : F + bitS 3 ≤ 65536) (e4 : F % bitS 3 = 0) (hs : 0 ≤ fld s ∧ fld s < 64) (hd : 0 ≤ fld d ∧ fld d < 64) (hr : 0 ≤ r ∧ r ≤ 7) (hn : loS 3 ≤ m ∧ m ≤ hiS 3) (es : X.operand_Field s = fld s) (ed : X.operand_Field d = fld d) (d0 : dstS 3 = false → d = ⟨0, 0, 0⟩) : X.inst_form_word ⟨F, n, o, 3, y⟩ ⟨op, false, s, d, r, m⟩ = F + off 3 ⟨op, false, s, d, r, m⟩ := by
  simp only [off, bitS, loS, hiS, Int.reduceEq, if_true, if_false, or_self, or_true, true_or, or_false, false_or] at hn e3 e4 ⊢
  rw [W3, ed, show m = 0 by omega, or_add 6 (x := F) (y := fld d) (by omega) (by omega) (by first | (simp; done) | (simp; omega)) (by omega) (by first | (simp; done) | (simp; omega)) (by omega), or0 (by omega) (by omega)] <;> omega
theorem V4 (e2 : 0 ≤ F) (e3 : F + bitS 4 ≤ 65536) (e4 : F % bitS 4 = 0) (hs : 0 ≤ fld s ∧ fld s < 64) (hd : 0 ≤ fld d ∧ fld d < 64) (hr : 0 ≤ r ∧ r ≤ 7) (hn : loS 4 ≤ m ∧ m ≤ hiS 4) (es : X.operand_Field s = fld s) (ed : X.operand_Field d = fld d) (d0 : dstS 4 = false → d = ⟨0, 0, 0⟩) : X.inst_form_word ⟨F, n, o, 4, y⟩ ⟨op, false, s, d, r, m⟩ = F + off 4 ⟨op, false, s, d, r, m⟩ := by
  simp only [off, bitS, loS, hiS, Int.reduceEq, if_true, if_false, or_self, or_true, true_or, or_false, false_or] at hn e3 e4 ⊢
  rw [W4, ed, show m = 0 by omega, or_add 6 (x := F) (y := fld d) (by omega) (by omega) (by first | (simp; done) | (simp; omega)) (by omega) (by first | (simp; done) | (simp; omega)) (by omega), or0 (by omega) (by omega)] <;> omega
theorem V5 (e2 : 0 ≤ F) (e3 : F + bitS 5 ≤ 65536) (e4 : F % bitS 5 = 0) (hs : 0 ≤ fld s ∧ fld s < 64) (hd : 0 ≤ fld d ∧ fld d < 64) (hr : 0 ≤ r ∧ r ≤ 7) (hn : loS 5 ≤ m ∧ m ≤ hiS 5) (es : X.operand_Field s = fld s) (ed : X.operand_Field d = fld d) (d0 : dstS 5 = false → d = ⟨0, 0, 0⟩) : X.inst_form_word ⟨F, n, o, 5, y⟩ ⟨op, false, s, d, r, m⟩ = F + off 5 ⟨op, false, s, d, r, m⟩ := by
  simp only [off, bitS, loS, hiS, Int.reduceEq, if_true, if_false, or_self, or_true, true_or, or_false, false_or] at hn e3 e4 ⊢
  rw [W5, es, wrap64 (by omega) (by omega), or_add 9 (x := F) (y := r * 64) (by omega) (by omega) (by first | (simp; done) | (simp; omega)) (by omega) (by first | (simp; done) | (simp; omega)) (by omega), or_add 6 (x := F + r * 64) (y := fld s) (by omega) (by omega) (by first | (simp; done) | (simp; omega)) (by omega) (by first | (simp; done) | (simp; omega)) (by omega)] <;> omega
theorem V6 (e2 : 0 ≤ F) (e3 : F + bitS 6 ≤ 65536) (e4 : F % bitS 6 = 0) (hs : 0 ≤ fld s ∧ fld s < 64) (hd : 0 ≤ fld d ∧ fld d < 64) (hr : 0 ≤ r ∧ r ≤ 7) (hn : loS 6 ≤ m ∧ m ≤ hiS 6) (es : X.operand_Field s = fld s) (ed : X.operand_Field d = fld d) (d0 : dstS 6 = false → d = ⟨0, 0, 0⟩) : X.inst_form_word ⟨F, n, o, 6, y⟩ ⟨op, false, s, d, r, m⟩ = F + off 6 ⟨op, false, s, d, r, m⟩ := by
  simp only [off, bitS, loS, hiS, Int.reduceEq, if_true, if_false, or_self, or_true, true_or, or_false, false_or] at hn e3 e4 ⊢
  rw [W6, ed, show m = 0 by omega, wrap64 (by omega) (by omega), or_add 9 (x := F) (y := r * 64) (by omega) (by omega) (by first | (simp; done) | (simp; omega)) (by omega) (by first | (simp; done) | (simp; omega)) (by omega), or_add 6 (x := F + r * 64) (y := fld d) (by omega) (by omega) (by first | (simp; done) | (simp; omega)) (by omega) (by first | (simp; done) | (simp; omega)) (by omega), or0 (by omega) (by omega)] <;> omega
theorem V7 (e2 : 0 ≤ F) (e3 : F + bitS 7 ≤ 65536) (e4 : F % bitS 7 = 0) (hs : 0 ≤ fld s ∧ fld s < 64) (hd : 0 ≤ fld d ∧ fld d < 64) (hr : 0 ≤ r ∧ r ≤ 7) (hn : loS 7 ≤ m ∧ m ≤ hiS 7) (es : X.operand_Field s = fld s) (ed : X.operand_Field d = fld d) (d0 : dstS 7 = false → d = ⟨0, 0, 0⟩) : X.inst_form_word ⟨F, n, o, 7, y⟩ ⟨op, false, s, d, r, m⟩ = F + off 7 ⟨op, false, s, d, r, m⟩ := by
  simp only [off, bitS, loS, hiS, Int.reduceEq, if_true, if_false, or_self, or_true, true_or, or_false, false_or] at hn e3 e4 ⊢
  rw [W7, ed, show m = 0 by omega, wrap64 (by omega) (by omega), or_add 9 (x := F) (y := r * 64) (by omega) (by omega) (by first | (simp; done) | (simp; omega)) (by omega) (by first | (simp; done) | (simp; omega)) (by omega), or_add 6 (x := F + r * 64) (y := fld d) (by omega) (by omega) (by first | (simp; done) | (simp; omega)) (by omega) (by first | (simp; done) | (simp; omega)) (by omega), or0 (by omega) (by omega)] <;> omega
theorem V8 (e2 : 0 ≤ F) (e3 : F + bitS 8 ≤ 65536) (e4 : F % bitS 8 = 0) (hs : 0 ≤ fld s ∧ fld s < 64) (hd : 0 ≤ fld d ∧ fld d < 64) (hr : 0 ≤ r ∧ r ≤ 7) (hn : loS 8 ≤ m ∧ m ≤ hiS 8) (es : X.operand_Field s = fld s) (ed : X.operand_Field d = fld d) (d0 : dstS 8 = false → d = ⟨0, 0, 0⟩) : X.inst_form_word ⟨F, n, o, 8, y⟩ ⟨op, false, s, d, r, m⟩ = F + off 8 ⟨op, false, s, d, r, m⟩ := by
  simp only [off, bitS, loS, hiS, Int.reduceEq, if_true, if_false, or_self, or_true, true_or, or_false, false_or] at hn e3 e4 ⊢
  rw [W8, or_add 3 (x := F) (y := r) (by omega) (by omega) (by first | (simp; done) | (simp; omega)) (by omega) (by first | (simp; done) | (simp; omega)) (by omega)]
theorem V9 (e2 : 0 ≤ F) (e3 : F + bitS 9 ≤ 65536) (e4 : F % bitS 9 = 0) (hs : 0 ≤ fld s ∧ fld s < 64) (hd : 0 ≤ fld d ∧ fld d < 64) (hr : 0 ≤ r ∧ r ≤ 7) (hn : loS 9 ≤ m ∧ m ≤ hiS 9) (es : X.operand_Field s = fld s) (ed : X.operand_Field d = fld d) (d0 : dstS 9 = false → d = ⟨0, 0, 0⟩) : X.inst_form_word ⟨F, n, o, 9, y⟩ ⟨op, false, s, d, r, m⟩ = F + off 9 ⟨op, false, s, d, r, m⟩ := by
  simp only [off, bitS, loS, hiS, Int.reduceEq, if_true, if_false, or_self, or_true, true_or, or_false, false_or] at hn e3 e4 ⊢
  rw [W9, mask8, or_add 8 (x := F) (y := m % 256) (by omega) (by omega) (by first | (simp; done) | (simp; omega)) (by omega) (by first | (simp; done) | (simp; omega)) (by omega)]
theorem V10 (e2 : 0 ≤ F) (e3 : F + bitS 10 ≤ 65536) (e4 : F % bitS 10 = 0) (hs : 0 ≤ fld s ∧ fld s < 64) (hd : 0 ≤ fld d ∧ fld d < 64) (hr : 0 ≤ r ∧ r ≤ 7) (hn : loS 10 ≤ m ∧ m ≤ hiS 10) (es : X.operand_Field s = fld s) (ed : X.operand_Field d = fld d) (d0 : dstS 10 = false → d = ⟨0, 0, 0⟩) : X.inst_form_word ⟨F, n, o, 10, y⟩ ⟨op, false, s, d, r, m⟩ = F + off 10 ⟨op, false, s, d, r, m⟩ := by
  simp only [off, bitS, loS, hiS, Int.reduceEq, if_true, if_false, or_self, or_true, true_or, or_false, false_or] at hn e3 e4 ⊢
  rw [W10, wrap64 (by omega) (by omega), or_add 9 (x := F) (y := r * 64) (by omega) (by omega) (by first | (simp; done) | (simp; omega)) (by omega) (by first | (simp; done) | (simp; omega)) (by omega), or_add 6 (x := F + r * 64) (y := m) (by omega) (by omega) (by first | (simp; done) | (simp; omega)) (by omega) (by first | (simp; done) | (simp; omega)) (by omega)] <;> omega
theorem V11 (e2 : 0 ≤ F) (e3 : F + bitS 11 ≤ 65536) (e4 : F % bitS 11 = 0) (hs : 0 ≤ fld s ∧ fld s < 64) (hd : 0 ≤ fld d ∧ fld d < 64) (hr : 0 ≤ r ∧ r ≤ 7) (hn : loS 11 ≤ m ∧ m ≤ hiS 11) (es : X.operand_Field s = fld s) (ed : X.operand_Field d = fld d) (d0 : dstS 11 = false → d = ⟨0, 0, 0⟩) : X.inst_form_word ⟨F, n, o, 11, y⟩ ⟨op, false, s, d, r, m⟩ = F + off 11 ⟨op, false, s, d, r, m⟩ := by
  simp only [off, bitS, loS, hiS, Int.reduceEq, if_true, if_false, or_self, or_true, true_or, or_false, false_or] at hn e3 e4 ⊢
  rw [W11, d0 rfl, f0, or0 e2 (by omega), or_add 8 (x := F) (y := m) (by omega) (by omega) (by first | (simp; done) | (simp; omega)) (by omega) (by first | (simp; done) | (simp; omega)) (by omega)]
theorem V12 (e2 : 0 ≤ F) (e3 : F + bitS 12 ≤ 65536) (e4 : F % bitS 12 = 0) (hs : 0 ≤ fld s ∧ fld s < 64) (hd : 0 ≤ fld d ∧ fld d < 64) (hr : 0 ≤ r ∧ r ≤ 7) (hn : loS 12 ≤ m ∧ m ≤ hiS 12) (es : X.operand_Field s = fld s) (ed : X.operand_Field d = fld d) (d0 : dstS 12 = false → d = ⟨0, 0, 0⟩) : X.inst_form_word ⟨F, n, o, 12, y⟩ ⟨op, false, s, d, r, m⟩ = F + off 12 ⟨op, false, s, d, r, m⟩ := by
  simp only [off, bitS, loS, hiS, Int.reduceEq, if_true, if_false, or_self, or_true, true_or, or_false, false_or] at hn e3 e4 ⊢
  rw [W12, d0 rfl, f0, or0 e2 (by omega), or_add 4 (x := F) (y := m) (by omega) (by omega) (by first | (simp; done) | (simp; omega)) (by omega) (by first | (simp; done) | (simp; omega)) (by omega)]
end
theorem wordB (f : M.Inst_form) (i : M.Inst) : X.inst_form_word f i = X.inst_form_word ⟨(bif i.Byte then bitOf BinOp.or IntKind.i64 f.first 32768 else f.first), f.bits, f.op, f.shape, f.bytes⟩ ⟨i.Op, false, i.Src, i.Dst, i.Reg, i.Num⟩ := by
  unfold X.inst_form_word
  cases i.Byte <;> simp only [cond_true, cond_false]
theorem wordE {f : M.Inst_form} (t : TF f) {i : M.Inst} (v : VI i) (ho : f.op = i.Op) : X.inst_form_word f i = f.first + bb i.Byte + off f.shape i := by
  have hs := fld_r v.ovs
  have hd := fld_r v.ovd
  have hr := v.reg
  have hn := v.num
  rw [← ho, t.lo, t.hi] at hn
  have ht := t.shape
  obtain ⟨e1, e2, e3, e4⟩ := or_first t v ho
  rw [wordB, e1]
  have d0 := dst0 t v ho
  have es := fieldP v.ovs
  have ed := fieldP v.ovd
  clear t v e1
  generalize f.first + bb i.Byte = F at e2 e3 e4 ⊢
  obtain ⟨first, bits, op, shape, bytes⟩ := f
  have ho : off shape i = off shape ⟨i.Op, false, i.Src, i.Dst, i.Reg, i.Num⟩ := rfl
  simp only at hn ht e3 e4 d0 ⊢
  rw [ho]
  have hc : shape = 0 ∨ shape = 1 ∨ shape = 2 ∨ shape = 3 ∨ shape = 4 ∨ shape = 5 ∨ shape = 6 ∨ shape = 7 ∨ shape = 8 ∨ shape = 9 ∨ shape = 10 ∨ shape = 11 ∨ shape = 12 := by omega
  rcases hc with h | h | h | h | h | h | h | h | h | h | h | h | h <;> subst h
  · exact V0 e2 e3 e4 hs hd hr hn es ed d0
  · exact V1 e2 e3 e4 hs hd hr hn es ed d0
  · exact V2 e2 e3 e4 hs hd hr hn es ed d0
  · exact V3 e2 e3 e4 hs hd hr hn es ed d0
  · exact V4 e2 e3 e4 hs hd hr hn es ed d0
  · exact V5 e2 e3 e4 hs hd hr hn es ed d0
  · exact V6 e2 e3 e4 hs hd hr hn es ed d0
  · exact V7 e2 e3 e4 hs hd hr hn es ed d0
  · exact V8 e2 e3 e4 hs hd hr hn es ed d0
  · exact V9 e2 e3 e4 hs hd hr hn es ed d0
  · exact V10 e2 e3 e4 hs hd hr hn es ed d0
  · exact V11 e2 e3 e4 hs hd hr hn es ed d0
  · exact V12 e2 e3 e4 hs hd hr hn es ed d0

theorem mkE {f : M.Inst_form} (t : TF f) {i : M.Inst} (v : VI i) (ho : f.op = i.Op) : mk f i.Byte (f.first + bb i.Byte + off f.shape i) = ⟨i.Op, i.Byte, z0 i.Src, z0 i.Dst, i.Reg, i.Num⟩ := by
  have hs := fld_r v.ovs
  have hd := fld_r v.ovd
  have hr := v.reg
  have hn := v.num
  rw [← ho, t.lo, t.hi] at hn
  have ht := t.shape
  obtain ⟨e1, e2, e3, e4⟩ := or_first t v ho
  have s0 := src0 t v ho
  have d0 := dst0 t v ho
  have r0 := reg0 t v ho
  have vs := v.ovs
  have vd := v.ovd
  clear t v
  generalize hF : f.first + bb i.Byte = F at e2 e3 e4 ⊢
  obtain ⟨first, bits, op, shape, bytes⟩ := f
  simp only at ho hn ht e2 e3 e4 s0 d0 r0 ⊢
  clear e1
  have hc : shape = 0 ∨ shape = 1 ∨ shape = 2 ∨ shape = 3 ∨ shape = 4 ∨ shape = 5 ∨ shape = 6 ∨ shape = 7 ∨ shape = 8 ∨ shape = 9 ∨ shape = 10 ∨ shape = 11 ∨ shape = 12 := by omega
  have zz : (⟨0, 0, 0⟩ : M.Operand) = z0 ⟨0, 0, 0⟩ := rfl
  rcases hc with h | h | h | h | h | h | h | h | h | h | h | h | h <;> subst h <;>
    simp only [srcS, dstS, regS, Int.reduceBEq, Bool.or_self, Bool.or_true, Bool.or_false, Bool.true_or, reduceCtorEq, false_imp_iff, true_imp_iff, forall_const] at s0 d0 r0 <;>
    simp only [off, bitS, loS, hiS, Int.reduceEq, if_true, if_false, or_self, or_true, true_or, or_false, false_or] at hn e3 e4 ⊢ <;> unfold mk
  · rw [F0]; dsimp only; exact inst_ext ho (by rw [s0, ← zz]) (by rw [d0, ← zz]) r0.symm (by omega)
  · rw [F1]; dsimp only; exact inst_ext ho (frmE vs (F / 64 / 64) (by omega)) (frmE vd (F / 64 + fld i.Src) (by omega)) r0.symm (by omega)
  · rw [F2]; dsimp only; exact inst_ext ho (frmE vs (F / 64) (by omega)) (by rw [d0, ← zz]) r0.symm (by omega)
  · rw [F3]; dsimp only; exact inst_ext ho (by rw [s0, ← zz]) (frmE vd (F / 64) (by omega)) r0.symm (by omega)
  · rw [F4]; dsimp only; exact inst_ext ho (by rw [s0, ← zz]) (frmE vd (F / 64) (by omega)) r0.symm (by omega)
  · rw [F5]; dsimp only; exact inst_ext ho (frmE vs (F / 64 + i.Reg) (by omega)) (by rw [d0, ← zz]) (by show (_ : Int) = _; omega) (by omega)
  · rw [F6]; dsimp only; exact inst_ext ho (by rw [s0, ← zz]) (frmE vd (F / 64 + i.Reg) (by omega)) (by show (_ : Int) = _; omega) (by omega)
  · rw [F7]; dsimp only; exact inst_ext ho (by rw [s0, ← zz]) (frmE vd (F / 64 + i.Reg) (by omega)) (by show (_ : Int) = _; omega) (by omega)
  · rw [F8]; dsimp only; exact inst_ext ho (by rw [s0, ← zz]) (by rw [d0, ← zz]) (by show (_ : Int) = _; omega) (by omega)
  · rw [F9]; dsimp only; exact inst_ext ho (by rw [s0, ← zz]) (by rw [d0, ← zz]) r0.symm (by show sgn _ = _; unfold sgn; split <;> omega)
  · rw [F10]; dsimp only; exact inst_ext ho (by rw [s0, ← zz]) (by rw [d0, ← zz]) (by show (_ : Int) = _; omega) (by show (_ : Int) = _; omega)
  · rw [F11]; dsimp only; exact inst_ext ho (by rw [s0, ← zz]) (by rw [d0, ← zz]) r0.symm (by show (_ : Int) = _; omega)
  · rw [F12]; dsimp only; exact inst_ext ho (by rw [s0, ← zz]) (by rw [d0, ← zz]) r0.symm (by show (_ : Int) = _; omega)

/-- The word of a valid instruction and what it is. -/
theorem word_shape {f : M.Inst_form} {i : M.Inst} (hf : byOp i.Op forms = some f) (v : VI i) :
    bitOf BinOp.and IntKind.i64 (X.inst_form_word f i) 65535 = X.R06_first i ∧ 0 ≤ X.R06_first i ∧ X.R06_first i < 65536 ∧ X.R06_shape (X.R06_first i) = ⟨i.Op, i.Byte, z0 i.Src, z0 i.Dst, i.Reg, i.Num⟩ := by
  obtain ⟨hm, ho⟩ := byOp_some hf
  have t := tf_of hm
  have e1 := wordE t v ho
  have e2 : X.R06_first i = _ := fs_all f hm i ho.symm v
  have e3 := mkE t v ho
  have q := off_r t v ho
  obtain ⟨k1, k2, k3, k4⟩ := or_first t v ho
  have b0 : 0 ≤ X.R06_first i := by omega
  have b1 : X.R06_first i < 65536 := by omega
  have hh := hitE t b0 b1 e2 k4 q
  refine ⟨by rw [e1, ← e2, mask16]; omega, b0, b1, ?_⟩
  rw [shape_eq b0 b1]
  have qq := q_all b0 b1 f hm
  rw [← e3, ← e2]
  cases hb : i.Byte with
  | false =>
    rw [hb] at hh
    exact qq.1 (by rw [hh]; simp [bb])
  | true =>
    have k := v.byte hb
    rw [← ho, t.byte] at k
    rw [hb] at hh
    exact qq.2 k (by rw [hh, (t.bytes k).2.2]; rfl)
end PL
end Go.Proofs.Ytnonimnhninafaa.Ab

/- What words, Encode, Valid, Length, Ends and Privileged return. -/
namespace Go.Proofs.Ytnonimnhninafaa.Ab
open Go
set_option linter.unusedVariables false
set_option linter.unusedSimpArgs false
namespace PL
set_option maxRecDepth 100000

theorem cond_ite {α : Type} (c : Bool) (x y : α) : (bif c then x else y) = if c = true then x else y := by cases c <;> rfl

theorem dec_valid {l : List Int} {y : M.Inst × Int × Unit} (h : X.R06_Decode l = some y) (hn : y.2.1 ≠ 0) : X.R06_Valid y.1 = true := by
  have key : ∀ (V : M.Inst) (k : Int), (bif (!(X.R06_Valid V)) then some ((⟨(0 : Int), false, (⟨(0 : Int), (0 : Int), (0 : Int)⟩ : M.Operand), (⟨(0 : Int), (0 : Int), (0 : Int)⟩ : M.Operand), (0 : Int), (0 : Int)⟩ : M.Inst), (0 : Int), ()) else some (V, k, ())) = some y → X.R06_Valid y.1 = true := fun V k h => by
    cases hv : X.R06_Valid V with
    | true => rw [hv] at h; cases h; exact hv
    | false => rw [hv] at h; cases h; exact absurd rfl hn
  have zero : some ((⟨(0 : Int), false, (⟨(0 : Int), (0 : Int), (0 : Int)⟩ : M.Operand), (⟨(0 : Int), (0 : Int), (0 : Int)⟩ : M.Operand), (0 : Int), (0 : Int)⟩ : M.Inst), (0 : Int), ()) = some y → X.R06_Valid y.1 = true := fun h => by cases h; exact absurd rfl hn
  have none' : (none : Option (M.Inst × Int × Unit)) = some y → X.R06_Valid y.1 = true := fun h => by cases h
  have two : ∀ (c : Bool) (a b : Option (M.Inst × Int × Unit)), (a = some y → X.R06_Valid y.1 = true) → (b = some y → X.R06_Valid y.1 = true) → (bif c then a else b) = some y → X.R06_Valid y.1 = true := fun c a b h1 h2 h => by
    cases c with
    | true => exact h1 h
    | false => exact h2 h
  revert h
  unfold X.R06_Decode
  repeat' first
    | exact zero
    | exact none'
    | exact key _ _
    | refine two _ _ _ ?_ ?_

theorem ov_valid {o : M.Operand} (h : OV o) : X.R05_Valid o = true := by
  have h1 := h.mode
  have h2 := h.reg
  have h3 := h.ext
  have e1 : decide (o.Mode < 0) = false := by simp; omega
  have e2 : decide (o.Mode > 7) = false := by simp; omega
  have e3 : decide (o.Reg < 0) = false := by simp; omega
  have e4 : decide (o.Reg > 7) = false := by simp; omega
  have e5 : decide (o.Ext < 0) = false := by simp; omega
  have e6 : decide (o.Ext > 65535) = false := by simp; omega
  unfold X.R05_Valid
  simp only [e1, e2, e3, e4, e5, e6, cond_false]
  rcases h.no with h | h
  · simp [h]
  · rw [h]; cases (o.Ext == 0) <;> rfl

theorem ext_z0 (o : M.Operand) : X.R05_Extended (z0 o) = X.R05_Extended o := rfl
theorem partS {i : M.Inst} (v : VI i) : (bif X.R06_Hassrc i.Op then X.R05_Extended i.Src else false) = X.R05_Extended i.Src := by
  rcases v.src with ⟨h, _⟩ | ⟨h, h2⟩
  · rw [h]; rfl
  · rw [h, h2]; rfl
theorem partD {i : M.Inst} (v : VI i) : (bif X.R06_Hasdst i.Op then X.R05_Extended i.Dst else false) = X.R05_Extended i.Dst := by
  rcases v.dst with ⟨h, _⟩ | ⟨h, h2⟩
  · rw [h]; rfl
  · rw [h, h2]; rfl
theorem z0_ext {o : M.Operand} (h : OV o) (he : X.R05_Extended o = false) : z0 o = o := by
  rcases h.no with h | h
  · unfold z0; rw [← h]
  · rw [he] at h; cases h
theorem isw {x : Int} (h : 0 ≤ x ∧ x < 65536) : X.R06_Isword x = true := by
  unfold X.R06_Isword
  have e1 : decide (x ≥ 0) = true := by simp; omega
  rw [e1]; simp; omega

def wds (i : M.Inst) : List Int := [X.R06_first i] ++ exs i.Src ++ exs i.Dst
theorem wds_len (i : M.Inst) : (wds i).length = 1 + ((bif X.R05_Extended i.Src then 1 else 0) + (bif X.R05_Extended i.Dst then 1 else 0)) := by
  unfold wds exs
  cases X.R05_Extended i.Src <;> cases X.R05_Extended i.Dst <;> rfl

/-- What the reference decodes of lists that begin like this. -/
theorem refdec {i : M.Inst} (v : VI i) (hv : X.R06_Valid i = true) {w : Int} (hw : 0 ≤ w ∧ w < 65536) (hs : X.R06_shape w = ⟨i.Op, i.Byte, z0 i.Src, z0 i.Dst, i.Reg, i.Num⟩) (rest : List Int) :
    X.R06_Decode ([w] ++ exs i.Src ++ exs i.Dst ++ rest) = some (i, ((wds i).length : Int), ()) := by
  have ps := partS v
  have pd := partD v
  have ws : X.R06_Isword i.Src.Ext = true := isw (by have := v.ovs.ext; omega)
  have wd : X.R06_Isword i.Dst.Ext = true := isw (by have := v.ovd.ext; omega)
  have zs := z0_ext v.ovs
  have zd := z0_ext v.ovd
  rw [wds_len]
  unfold X.R06_Decode exs
  have hi : ∀ s d, s = i.Src → d = i.Dst → (⟨i.Op, i.Byte, s, d, i.Reg, i.Num⟩ : M.Inst) = i := fun s d h1 h2 => by subst h1; subst h2; rfl
  have hz : ∀ o : M.Operand, (⟨(z0 o).Mode, (z0 o).Reg, o.Ext⟩ : M.Operand) = o := fun _ => rfl
  have e12 : IntKind.wrap IntKind.i64 ((1 : Int) + (1 : Int)) = 2 := rfl
  have e13 : IntKind.wrap IntKind.i64 ((2 : Int) + (1 : Int)) = 3 := rfl
  cases hS : X.R05_Extended i.Src with
  | false =>
    cases hD : X.R05_Extended i.Dst with
    | false =>
      rw [hS] at ps
      rw [hD] at pd
      simp only [cond_false, List.append_nil, List.cons_append, List.nil_append]
      generalize hg : List.getD (w :: rest) (0 : Nat) (dflt (Ty.int IntKind.i64)) = w'
      obtain rfl : w = w' := hg
      have hn : 1 ≤ (Nat.cast (List.length (w :: rest)) : Int) := by rw [List.length_cons]; omega
      generalize (Nat.cast (List.length (w :: rest)) : Int) = n at hn ⊢
      have e0 : (n == (0 : Int)) = false := by simp; omega
      have e1 : decide ((0 : Int) < n) = true := by simp; omega
      have e2 : decide ((0 : Int) ≤ (0 : Int)) = true := by decide
      simp only [e0, e1, e2, hs, isw hw, ext_z0, ps, pd, hS, hD, cond_false, cond_true, Bool.and_self, Bool.not_true, zs hS, zd hD, hv]
      rfl
    | true =>
      rw [hS] at ps
      rw [hD] at pd
      simp only [cond_false, cond_true, List.append_nil, List.cons_append, List.nil_append]
      generalize hg : List.getD (w :: i.Dst.Ext :: rest) (0 : Nat) (dflt (Ty.int IntKind.i64)) = w'
      obtain rfl : w = w' := hg
      generalize hg : List.getD (w :: i.Dst.Ext :: rest) (1 : Nat) (dflt (Ty.int IntKind.i64)) = x'
      obtain rfl : i.Dst.Ext = x' := hg
      have hn : 2 ≤ (Nat.cast (List.length (w :: i.Dst.Ext :: rest)) : Int) := by rw [List.length_cons, List.length_cons]; omega
      generalize (Nat.cast (List.length (w :: i.Dst.Ext :: rest)) : Int) = n at hn ⊢
      have e0 : (n == (0 : Int)) = false := by simp; omega
      have e1 : decide ((0 : Int) < n) = true := by simp; omega
      have e2 : decide ((0 : Int) ≤ (0 : Int)) = true := by decide
      have e3 : decide ((0 : Int) ≤ (1 : Int)) = true := by decide
      have e4 : decide ((1 : Int) < n) = true := by simp; omega
      have e5 : decide ((1 : Int) ≥ n) = false := by simp; omega
      simp only [e0, e1, e2, e3, e4, e5, hs, isw hw, ext_z0, ps, pd, hS, hD, cond_false, cond_true, Bool.and_self, Bool.not_true, zs hS, hz, wd, hv, e12]
      rfl
  | true =>
    cases hD : X.R05_Extended i.Dst with
    | false =>
      rw [hS] at ps
      rw [hD] at pd
      simp only [cond_false, cond_true, List.append_nil, List.cons_append, List.nil_append]
      generalize hg : List.getD (w :: i.Src.Ext :: rest) (0 : Nat) (dflt (Ty.int IntKind.i64)) = w'
      obtain rfl : w = w' := hg
      generalize hg : List.getD (w :: i.Src.Ext :: rest) (1 : Nat) (dflt (Ty.int IntKind.i64)) = x'
      obtain rfl : i.Src.Ext = x' := hg
      have hn : 2 ≤ (Nat.cast (List.length (w :: i.Src.Ext :: rest)) : Int) := by rw [List.length_cons, List.length_cons]; omega
      generalize (Nat.cast (List.length (w :: i.Src.Ext :: rest)) : Int) = n at hn ⊢
      have e0 : (n == (0 : Int)) = false := by simp; omega
      have e1 : decide ((0 : Int) < n) = true := by simp; omega
      have e2 : decide ((0 : Int) ≤ (0 : Int)) = true := by decide
      have e3 : decide ((0 : Int) ≤ (1 : Int)) = true := by decide
      have e4 : decide ((1 : Int) < n) = true := by simp; omega
      have e5 : decide ((1 : Int) ≥ n) = false := by simp; omega
      simp only [e0, e1, e2, e3, e4, e5, hs, isw hw, ext_z0, ps, pd, hS, hD, cond_false, cond_true, Bool.and_self, Bool.not_true, zd hD, hz, ws, hv, e12]
      rfl
    | true =>
      rw [hS] at ps
      rw [hD] at pd
      simp only [cond_true, List.append_nil, List.cons_append, List.nil_append, e12, e13]
      generalize hg : List.getD (w :: i.Src.Ext :: i.Dst.Ext :: rest) (0 : Nat) (dflt (Ty.int IntKind.i64)) = w'
      obtain rfl : w = w' := hg
      generalize hg : List.getD (w :: i.Src.Ext :: i.Dst.Ext :: rest) (1 : Nat) (dflt (Ty.int IntKind.i64)) = x'
      obtain rfl : i.Src.Ext = x' := hg
      generalize hg : List.getD (w :: i.Src.Ext :: i.Dst.Ext :: rest) (Int.toNat 2) (dflt (Ty.int IntKind.i64)) = y'
      obtain rfl : i.Dst.Ext = y' := hg
      have hn : 3 ≤ (Nat.cast (List.length (w :: i.Src.Ext :: i.Dst.Ext :: rest)) : Int) := by rw [List.length_cons, List.length_cons, List.length_cons]; omega
      have e0 : ((Nat.cast (List.length (w :: i.Src.Ext :: i.Dst.Ext :: rest)) : Int) == (0 : Int)) = false := by rw [beq_eq_false_iff_ne]; omega
      have e1 : decide ((0 : Int) < (Nat.cast (List.length (w :: i.Src.Ext :: i.Dst.Ext :: rest)) : Int)) = true := decide_eq_true (by omega)
      have e2 : decide ((0 : Int) ≤ (0 : Int)) = true := by decide
      have e3 : decide ((0 : Int) ≤ (1 : Int)) = true := by decide
      have e3' : decide ((0 : Int) ≤ (2 : Int)) = true := by decide
      have e4 : decide ((1 : Int) < (Nat.cast (List.length (w :: i.Src.Ext :: i.Dst.Ext :: rest)) : Int)) = true := decide_eq_true (by omega)
      have e5 : decide ((1 : Int) ≥ (Nat.cast (List.length (w :: i.Src.Ext :: i.Dst.Ext :: rest)) : Int)) = false := decide_eq_false (by omega)
      have e6 : decide ((2 : Int) < (Nat.cast (List.length (w :: i.Src.Ext :: i.Dst.Ext :: rest)) : Int)) = true := decide_eq_true (by omega)
      have e7 : decide ((2 : Int) ≥ (Nat.cast (List.length (w :: i.Src.Ext :: i.Dst.Ext :: rest)) : Int)) = false := decide_eq_false (by omega)
      simp only [e0, e1, e2, e3, e3', e4, e5, e6, e7, hs, isw hw, ext_z0, ps, pd, hS, hD, cond_false, cond_true, Bool.and_self, Bool.not_true, hz, ws, wd, hv]
      rfl

theorem words_true {i : M.Inst} (hv : X.R06_Valid i = true) : X.inst_words i = some (wds i, true, ()) := by
  have v := valid_inv hv
  obtain ⟨f, hf⟩ := byOp_ex v.op
  obtain ⟨hm, ho⟩ := byOp_some hf
  have t := tf_of hm
  obtain ⟨h1, h2, h3, h4⟩ := word_shape hf v
  have hwl : wl f i = wds i := by unfold wl wds; rw [h1]
  have hb : badf f i = false := by
    unfold badf
    rw [ov_valid v.ovs, ov_valid v.ovd, mask3]
    have e : (i.Reg % 8 != i.Reg) = false := by have := v.reg; simp; omega
    rw [e]
    cases hB : i.Byte with
    | false => rfl
    | true =>
      have k := v.byte hB
      rw [← ho, t.byte] at k
      rw [k]; rfl
  have hd : X.inst_Decode (wds i) = some (i, ((wds i).length : Int), ()) := by
    obtain ⟨r, k1, k2⟩ := decode_eq (wds i)
    have := refdec v hv ⟨h2, h3⟩ h4 []
    rw [List.append_nil] at this
    rw [k1, ← k2]; exact this
  have e : vEqB (Ty.st SId.sInst) i i = true := vEqB_dec.2 rfl
  rw [words_eq, hf]
  unfold wbody
  simp only [hb, cond_false, hwl, hd, beq_self_eq_true, e, Bool.and_self]

theorem words_false {i : M.Inst} (hv : X.R06_Valid i = false) : ∃ l, X.inst_words i = some (l, false, ()) := by
  rw [words_eq]
  cases hf : byOp i.Op forms with
  | none => exact ⟨_, rfl⟩
  | some f =>
    unfold wbody
    simp only
    cases hb : badf f i with
    | true => exact ⟨_, rfl⟩
    | false =>
      obtain ⟨y, k1, k2⟩ := decode_eq (wl f i)
      rw [k1]
      simp only [cond_false]
      refine ⟨wl f i, ?_⟩
      have e : ((y.2.1 == ((wl f i).length : Int)) && vEqB (Ty.st SId.sInst) i y.1) = false := by
        cases h1 : (y.2.1 == ((wl f i).length : Int)) with
        | false => rfl
        | true =>
          cases h2 : vEqB (Ty.st SId.sInst) i y.1 with
          | false => rfl
          | true =>
            have e1 : y.2.1 = ((wl f i).length : Int) := by simpa using h1
            have e2 : i = y.1 := vEqB_dec.1 h2
            have hn : y.2.1 ≠ 0 := by
              rw [e1]
              have : 0 < (wl f i).length := by unfold wl; simp
              omega
            have := dec_valid k2 hn
            rw [← e2, hv] at this
            cases this
      rw [e]

theorem enc_true {i : M.Inst} (hv : X.R06_Valid i = true) : X.R06_Encode i = (wds i, 0) := by
  have v := valid_inv hv
  unfold X.R06_Encode wds exs
  rw [hv, partS v, partD v]
  cases X.R05_Extended i.Src <;> cases X.R05_Extended i.Dst <;> rfl
theorem enc_false {i : M.Inst} (hv : X.R06_Valid i = false) : X.R06_Encode i = ([], 1) := by
  unfold X.R06_Encode; rw [hv]; rfl

theorem encode_eq (i : M.Inst) : X.inst_Encode i = some ((X.R06_Encode i).1, (X.R06_Encode i).2, ()) := by
  unfold X.inst_Encode
  cases hv : X.R06_Valid i with
  | true => rw [words_true hv, enc_true hv]; rfl
  | false =>
    obtain ⟨l, h⟩ := words_false hv
    rw [h, enc_false hv]; rfl
theorem valid_eq (i : M.Inst) : X.inst_Valid i = some (X.R06_Valid i, ()) := by
  unfold X.inst_Valid
  cases hv : X.R06_Valid i with
  | true => rw [words_true hv]
  | false =>
    obtain ⟨l, h⟩ := words_false hv
    rw [h]
theorem length_eq (i : M.Inst) : X.inst_Length i = some (X.R06_Length i, ()) := by
  unfold X.inst_Length X.R06_Length
  cases hv : X.R06_Valid i with
  | true => rw [words_true hv, enc_true hv]; rfl
  | false =>
    obtain ⟨l, h⟩ := words_false hv
    rw [h, enc_false hv]; rfl
theorem priv_eq (i : M.Inst) : X.inst_Privileged i = some (X.R06_Privileged i, ()) := by
  unfold X.inst_Privileged X.R06_Privileged
  rw [valid_eq]
  cases X.R06_Valid i <;> cases (i.Op == 50) <;> cases (i.Op == 51) <;> rfl

theorem dst_pc {o : M.Operand} (h : OV o) : vEqB (Ty.st SId.sOperand) o (⟨0, 7, 0⟩ : M.Operand) = (bif o.Mode == 0 then o.Reg == 7 else false) := by
  have key : vEqB (Ty.st SId.sOperand) o (⟨0, 7, 0⟩ : M.Operand) = true ↔ o = (⟨0, 7, 0⟩ : M.Operand) := vEqB_dec
  rw [Bool.eq_iff_iff]
  refine key.trans ?_
  constructor
  · rintro rfl; rfl
  · intro h1
    cases hm : (o.Mode == 0) with
    | false => rw [hm] at h1; cases h1
    | true =>
      rw [hm] at h1
      have e1 : o.Mode = 0 := by simpa using hm
      have e2 : o.Reg = 7 := by simpa using h1
      have e3 : o.Ext = 0 := by
        rcases h.no with k | k
        · exact k
        · unfold X.R05_Extended X.R05_Mode at k
          rw [mask3, e1] at k
          simp at k
      obtain ⟨m, r, x⟩ := o
      simp only at e1 e2 e3
      subst e1 e2 e3
      rfl

theorem ends_eq (i : M.Inst) : X.inst_Ends i = some (X.R06_Ends i, ()) := by
  unfold X.inst_Ends
  rw [valid_eq]
  cases hv : X.R06_Valid i with
  | false => unfold X.R06_Ends; rw [hv]; rfl
  | true =>
    have v := valid_inv hv
    have hd := dst_pc v.ovd
    have ho := v.op
    unfold X.R06_Ends
    simp only [hv, hd, X.R06_Isbranch, X.R06_Hasdst, X.R06_Isdouble, X.R06_Issingle]
    have hc : i.Op = 1 ∨ i.Op = 2 ∨ i.Op = 3 ∨ i.Op = 4 ∨ i.Op = 5 ∨ i.Op = 6 ∨ i.Op = 7 ∨ i.Op = 8 ∨ i.Op = 9 ∨ i.Op = 10 ∨ i.Op = 11 ∨ i.Op = 12 ∨ i.Op = 13 ∨ i.Op = 14 ∨ i.Op = 15 ∨ i.Op = 16 ∨ i.Op = 17 ∨ i.Op = 18 ∨ i.Op = 19 ∨ i.Op = 20 ∨ i.Op = 21 ∨ i.Op = 22 ∨ i.Op = 23 ∨ i.Op = 24 ∨ i.Op = 25 ∨ i.Op = 26 ∨ i.Op = 27 ∨ i.Op = 28 ∨ i.Op = 29 ∨ i.Op = 30 ∨ i.Op = 31 ∨ i.Op = 32 ∨ i.Op = 33 ∨ i.Op = 34 ∨ i.Op = 35 ∨ i.Op = 36 ∨ i.Op = 37 ∨ i.Op = 38 ∨ i.Op = 39 ∨ i.Op = 40 ∨ i.Op = 41 ∨ i.Op = 42 ∨ i.Op = 43 ∨ i.Op = 44 ∨ i.Op = 45 ∨ i.Op = 46 ∨ i.Op = 47 ∨ i.Op = 48 ∨ i.Op = 49 ∨ i.Op = 50 ∨ i.Op = 51 ∨ i.Op = 52 ∨ i.Op = 53 ∨ i.Op = 54 ∨ i.Op = 55 ∨ i.Op = 56 := by omega
    rcases hc with h | h | h | h | h | h | h | h | h | h | h | h | h | h | h | h | h | h | h | h | h | h | h | h | h | h | h | h | h | h | h | h | h | h | h | h | h | h | h | h | h | h | h | h | h | h | h | h | h | h | h | h | h | h | h | h <;> rw [h] <;> rfl
end PL
end Go.Proofs.Ytnonimnhninafaa.Ab

/- The plain law of InstDecodes. -/
namespace Go.Proofs.Ytnonimnhninafaa.Ab
open Go
set_option linter.unusedVariables false
set_option linter.unusedSimpArgs false
namespace PL
theorem alive : X.L06_alive = some (true, ()) := by kernel_rfl
theorem vEqB_refl (c : Ty) (x : den c) : vEqB c x x = true := by
  unfold vEqB
  exact @decide_eq_true _ (decDen c x x) rfl
theorem decodes (a : List Int) : X.L06_InstDecodes a = some (true, ()) := by
  unfold X.L06_InstDecodes
  rw [alive]
  obtain ⟨r, h1, h2⟩ := decode_eq a
  rw [h1, h2]
  cases decide ((Nat.cast (List.length a) : Int) > (8 : Int)) with
  | true => rfl
  | false =>
    show (bif vEqB (Ty.st SId.sInst) r.1 r.1 then bif (r.2.1 == r.2.1) then some (true, ()) else some (false, ()) else some (false, ())) = _
    have e : vEqB (Ty.st SId.sInst) r.1 r.1 = true := vEqB_refl _ _
    rw [e, beq_self_eq_true]
    rfl
end PL
end Go.Proofs.Ytnonimnhninafaa.Ab

/- The plain laws of InstEncodes, InstBack and InstUnique. -/
namespace Go.Proofs.Ytnonimnhninafaa.Ab
open Go
set_option linter.unusedVariables false
set_option linter.unusedSimpArgs false
namespace PL
theorem enc_len (i : M.Inst) : (X.R06_Encode i).1.length < 4 := by
  cases hv : X.R06_Valid i with
  | false => rw [enc_false hv]; decide
  | true =>
    rw [enc_true hv, wds_len]
    cases X.R05_Extended i.Src <;> cases X.R05_Extended i.Dst <;> decide

theorem encodes (i : M.Inst) : X.L06_InstEncodes i = some (true, ()) := by
  unfold X.L06_InstEncodes
  have hl := enc_len i
  rw [encode_eq, valid_eq, length_eq, ends_eq, priv_eq, alive]
  simp only [same_ints (a := (X.R06_Encode i).1) (b := (X.R06_Encode i).1) (by omega), decide_true, Bool.not_true, cond_false, cond_true, bne_self_eq_false, beq_self_eq_true]

theorem refdec_words {i : M.Inst} (hv : X.R06_Valid i = true) (rest : List Int) : X.inst_Decode (wds i ++ rest) = some (i, ((wds i).length : Int), ()) := by
  have v := valid_inv hv
  obtain ⟨f, hf⟩ := byOp_ex v.op
  obtain ⟨h1, h2, h3, h4⟩ := word_shape hf v
  obtain ⟨r, k1, k2⟩ := decode_eq (wds i ++ rest)
  rw [k1, ← k2]
  exact refdec v hv ⟨h2, h3⟩ h4 rest

theorem unique (i j : M.Inst) : X.L06_InstUnique i j = some (true, ()) := by
  unfold X.L06_InstUnique
  rw [valid_eq, valid_eq, alive, encode_eq, encode_eq]
  cases hi : X.R06_Valid i with
  | false => rfl
  | true =>
    cases hj : X.R06_Valid j with
    | false => rfl
    | true =>
      have hl : (wds i).length < 4 := by
        have := enc_len i
        rw [enc_true hi] at this
        exact this
      simp only [enc_true hi, enc_true hj, same_ints (a := wds i) (b := wds j) (by omega), Bool.not_true, cond_false]
      have e : (decide (wds i = wds j) == vEqB (Ty.st SId.sInst) i j) = true := by
        have key : vEqB (Ty.st SId.sInst) i j = true ↔ i = j := vEqB_dec
        rw [beq_iff_eq, Bool.eq_iff_iff, decide_eq_true_iff]
        refine Iff.trans ?_ key.symm
        constructor
        · intro h
          have h1 := refdec_words hi []
          have h2 := refdec_words hj []
          rw [h, h2] at h1
          simp only [Option.some.injEq, Prod.mk.injEq] at h1
          exact h1.1.symm
        · rintro rfl; rfl
      rw [e]
      rfl

theorem refdec_less {i : M.Inst} (hv : X.R06_Valid i = true) : ∃ j, X.inst_Decode (List.drop 0 (List.take ((wds i).length - 1) (wds i))) = some (j, 0, ()) := by
  have v := valid_inv hv
  obtain ⟨f, hf⟩ := byOp_ex v.op
  obtain ⟨h1, h2, h3, h4⟩ := word_shape hf v
  have hw := isw ⟨h2, h3⟩
  have ps := partS v
  have pd := partD v
  have ws : X.R06_Isword i.Src.Ext = true := isw (by have := v.ovs.ext; omega)
  have e0 : decide ((0 : Int) ≤ (0 : Int)) = true := by decide
  obtain ⟨r, k1, k2⟩ := decode_eq (List.drop 0 (List.take ((wds i).length - 1) (wds i)))
  suffices h : ∃ j, X.R06_Decode (List.drop 0 (List.take ((wds i).length - 1) (wds i))) = some (j, 0, ()) by
    obtain ⟨j, h⟩ := h
    exact ⟨j, by rw [k1, ← k2]; exact h⟩
  rw [wds_len]
  unfold wds exs
  cases hS : X.R05_Extended i.Src with
  | false =>
    cases hD : X.R05_Extended i.Dst with
    | false => exact ⟨_, rfl⟩
    | true =>
      show ∃ j, X.R06_Decode [X.R06_first i] = _
      unfold X.R06_Decode
      have g0 : List.getD [X.R06_first i] (0 : Nat) (dflt (Ty.int IntKind.i64)) = X.R06_first i := rfl
      rw [hS] at ps
      rw [hD] at pd
      rw [g0]
      simp only [h4, ext_z0, ps, pd, hS, hD, hw, Bool.not_true, cond_false, cond_true, List.length_cons, List.length_nil]
      exact ⟨_, rfl⟩
  | true =>
    cases hD : X.R05_Extended i.Dst with
    | false =>
      show ∃ j, X.R06_Decode [X.R06_first i] = _
      unfold X.R06_Decode
      have g0 : List.getD [X.R06_first i] (0 : Nat) (dflt (Ty.int IntKind.i64)) = X.R06_first i := rfl
      rw [hS] at ps
      rw [hD] at pd
      rw [g0]
      simp only [h4, ext_z0, ps, pd, hS, hD, hw, Bool.not_true, cond_false, cond_true, List.length_cons, List.length_nil]
      exact ⟨_, rfl⟩
    | true =>
      show ∃ j, X.R06_Decode [X.R06_first i, i.Src.Ext] = _
      unfold X.R06_Decode
      have g0 : List.getD [X.R06_first i, i.Src.Ext] (0 : Nat) (dflt (Ty.int IntKind.i64)) = X.R06_first i := rfl
      have g1 : List.getD [X.R06_first i, i.Src.Ext] (1 : Nat) (dflt (Ty.int IntKind.i64)) = i.Src.Ext := rfl
      rw [hS] at ps
      rw [hD] at pd
      rw [g0, g1]
      simp only [h4, ext_z0, ps, pd, hS, hD, hw, ws, Bool.not_true, cond_false, cond_true, List.length_cons, List.length_nil]
      exact ⟨_, rfl⟩

theorem capOK_small {n : Nat} (h : n < 16) : capOK n 8 = true := by
  have : (List.range 16).all (fun n => capOK n 8) = true := by kernel_rfl
  rw [List.all_eq_true] at this
  exact this n (List.mem_range.2 h)

theorem back (i : M.Inst) (b : List Int) : X.L06_InstBack i b = some (true, ()) := by
  unfold X.L06_InstBack
  rw [valid_eq, alive, encode_eq, length_eq]
  by_cases hb : (b.length : Int) > 4
  · simp only [hb, decide_true, cond_true]
  · simp only [hb, decide_false, cond_false]
    cases hi : X.R06_Valid i with
    | false => rfl
    | true =>
      have hl : (wds i).length < 4 := by
        have := enc_len i
        rw [enc_true hi] at this
        exact this
      have hl1 : 1 ≤ (wds i).length := by rw [wds_len]; omega
      obtain ⟨j, hj⟩ := refdec_less hi
      have hr : X.R06_Length i = ((wds i).length : Int) := by unfold X.R06_Length; rw [enc_true hi]
      have e1 : decide (((wds i).length : Int) < 1) = false := by simp; omega
      have e2 : IntKind.wrap IntKind.i64 (((wds i).length : Int) - 1) = (((wds i).length - 1 : Nat) : Int) := by rw [wrap64 (by omega) (by omega)]; omega
      have e3 : decide ((0 : Int) ≤ (0 : Int)) = true := by decide
      have e4 : decide ((0 : Int) ≤ (((wds i).length - 1 : Nat) : Int)) = true := by simp
      have e5 : decide ((((wds i).length - 1 : Nat) : Int) ≤ ((wds i).length : Int)) = true := by simp
      have e6 : vEqB (Ty.st SId.sInst) i i = true := vEqB_dec.2 rfl
      simp only [enc_true hi, hr, refdec_words hi, bne_self_eq_false, Bool.not_true, cond_false, cond_true, capOK_small (show (wds i).length < 16 by omega), capOK_small (show (wds i).length + b.length < 16 by omega), e1, e2, e3, e4, e5, Bool.and_self, Int.toNat_natCast, hj, e6, beq_self_eq_true]
end PL
end Go.Proofs.Ytnonimnhninafaa.Ab

/- The plain law of InstWords. -/
namespace Go.Proofs.Ytnonimnhninafaa.Ab
open Go
set_option linter.unusedVariables false
set_option linter.unusedSimpArgs false
namespace PL
set_option maxRecDepth 100000

theorem off_z0 (s : Int) (i j : M.Inst) (h1 : fld i.Src = fld j.Src) (h2 : fld i.Dst = fld j.Dst) (h3 : i.Reg = j.Reg) (h4 : i.Num = j.Num) : off s i = off s j := by unfold off; rw [h1, h2, h3, h4]

theorem fld_frm (a : Int) : fld (frm a) = a % 64 := by unfold fld frm; dsimp only; omega
theorem fld_0 : fld ⟨0, 0, 0⟩ = 0 := rfl

theorem off_mk {f : M.Inst_form} (t : TF f) (b : Bool) (w : Int) : off f.shape (mk f b w) = w % bitS f.shape := by
  have ht := t.shape
  clear t
  obtain ⟨first, bits, op, shape, bytes⟩ := f
  simp only at ht ⊢
  have hc : shape = 0 ∨ shape = 1 ∨ shape = 2 ∨ shape = 3 ∨ shape = 4 ∨ shape = 5 ∨ shape = 6 ∨ shape = 7 ∨ shape = 8 ∨ shape = 9 ∨ shape = 10 ∨ shape = 11 ∨ shape = 12 := by omega
  rcases hc with h | h | h | h | h | h | h | h | h | h | h | h | h <;> subst h <;> unfold mk
  · rw [F0]; simp only [off, bitS, Int.reduceEq, if_true, if_false, or_self, or_true, true_or, or_false, false_or]; omega
  · rw [F1]; simp only [off, bitS, Int.reduceEq, if_true, if_false, or_self, or_true, true_or, or_false, false_or, fld_frm]; omega
  · rw [F2]; simp only [off, bitS, Int.reduceEq, if_true, if_false, or_self, or_true, true_or, or_false, false_or, fld_frm]
  · rw [F3]; simp only [off, bitS, Int.reduceEq, if_true, if_false, or_self, or_true, true_or, or_false, false_or, fld_frm]
  · rw [F4]; simp only [off, bitS, Int.reduceEq, if_true, if_false, or_self, or_true, true_or, or_false, false_or, fld_frm]
  · rw [F5]; simp only [off, bitS, Int.reduceEq, if_true, if_false, or_self, or_true, true_or, or_false, false_or, fld_frm]; omega
  · rw [F6]; simp only [off, bitS, Int.reduceEq, if_true, if_false, or_self, or_true, true_or, or_false, false_or, fld_frm]; omega
  · rw [F7]; simp only [off, bitS, Int.reduceEq, if_true, if_false, or_self, or_true, true_or, or_false, false_or, fld_frm]; omega
  · rw [F8]; simp only [off, bitS, Int.reduceEq, if_true, if_false, or_self, or_true, true_or, or_false, false_or]
  · rw [F9]; simp only [off, bitS, Int.reduceEq, if_true, if_false, or_self, or_true, true_or, or_false, false_or]; unfold sgn; split <;> omega
  · rw [F10]; simp only [off, bitS, Int.reduceEq, if_true, if_false, or_self, or_true, true_or, or_false, false_or]; omega
  · rw [F11]; simp only [off, bitS, Int.reduceEq, if_true, if_false, or_self, or_true, true_or, or_false, false_or]
  · rw [F12]; simp only [off, bitS, Int.reduceEq, if_true, if_false, or_self, or_true, true_or, or_false, false_or]

theorem hit_split {f : M.Inst_form} (t : TF f) {w : Int} (h0 : 0 ≤ w) (h1 : w < 65536) : w = hit f w + w % bitS f.shape := by
  unfold hit
  rw [show IntKind.bits IntKind.i64 = 64 from rfl, t.bits]
  have hb : 0 < bitS f.shape := by unfold bitS; repeat' split <;> omega
  rw [Int.fdiv_eq_ediv_of_nonneg _ (by omega)]
  have e := Int.mul_ediv_add_emod w (bitS f.shape)
  rw [Int.mul_comm] at e
  have h2 := Int.emod_nonneg w (show bitS f.shape ≠ 0 by omega)
  have h3 : 0 ≤ w / bitS f.shape * bitS f.shape := Int.mul_nonneg (Int.ediv_nonneg h0 (by omega)) (by omega)
  rw [wrap64 (by omega) (by omega)]
  exact e.symm

/-- The first word of what a word is. -/
theorem first_back {w : Int} (h0 : 0 ≤ w) (h1 : w < 65536) {f : M.Inst_form} {b : Bool} (hs : search w forms = some (f, b)) {i : M.Inst} (hv : X.R06_Valid i = true) (e1 : i.Op = (mk f b w).Op) (e2 : i.Byte = (mk f b w).Byte)
    (e3 : fld i.Src = fld (mk f b w).Src) (e4 : fld i.Dst = fld (mk f b w).Dst) (e5 : i.Reg = (mk f b w).Reg) (e6 : i.Num = (mk f b w).Num) : X.R06_first i = w := by
  obtain ⟨hm, hc⟩ := search_some hs
  have t := tf_of hm
  have v := valid_inv hv
  have hop : (mk f b w).Op = f.op := by
    have two : ∀ (c : Bool) (x y : M.Inst), x.Op = f.op → y.Op = f.op → (bif c then x else y).Op = f.op := fun c x y h1 h2 => by cases c <;> assumption
    show (X.inst_form_fields f w).Op = f.op
    unfold X.inst_form_fields
    repeat' first
      | rfl
      | refine two _ _ _ ?_ ?_
  have hbyte : (mk f b w).Byte = b := rfl
  have e7 := fs_all f hm i (e1.trans hop) v
  rw [off_z0 f.shape i (mk f b w) e3 e4 e5 e6, off_mk t] at e7
  have e8 := hit_split t h0 h1
  rw [e7, e2, hbyte]
  have hhit : hit f w = f.first + bb b := by
    rcases hc with ⟨rfl, hc⟩ | ⟨rfl, hby, hc⟩
    · rw [hc]; simp [bb]
    · rw [hc, (t.bytes hby).2.2]; rfl
  omega

theorem fld_ext (o : M.Operand) (x : Int) : fld ⟨o.Mode, o.Reg, x⟩ = fld o := rfl

def zeroI : M.Inst := ⟨0, false, ⟨0, 0, 0⟩, ⟨0, 0, 0⟩, 0, 0⟩

/-- What is decoded is in front of the words. -/
theorem dec_words (a : List Int) : ∃ i n, X.inst_Decode a = some (i, n, ()) ∧ ((n = 0 ∧ i = zeroI) ∨ (∃ rest, a = wds i ++ rest ∧ n = ((wds i).length : Int) ∧ X.R06_Valid i = true)) := by
  obtain ⟨⟨i, n, u⟩, h1, h2⟩ := decode_eq a
  refine ⟨i, n, h1, ?_⟩
  clear h1
  have zero : some ((⟨(0 : Int), false, (⟨(0 : Int), (0 : Int), (0 : Int)⟩ : M.Operand), (⟨(0 : Int), (0 : Int), (0 : Int)⟩ : M.Operand), (0 : Int), (0 : Int)⟩ : M.Inst), (0 : Int), ()) = some (i, n, u) → (n = 0 ∧ i = zeroI) ∨ (∃ rest, a = wds i ++ rest ∧ n = ((wds i).length : Int) ∧ X.R06_Valid i = true) := fun h => by
    cases h; exact .inl ⟨rfl, rfl⟩
  cases a with
  | nil => exact zero h2
  | cons w l =>
    have hdv := fun hn => dec_valid h2 hn
    unfold X.R06_Decode at h2
    generalize h0 : List.getD (w :: l) (0 : Nat) (dflt (Ty.int IntKind.i64)) = w' at h2
    obtain rfl : w = w' := h0
    rw [show IntKind.wrap IntKind.i64 ((1 : Int) + (1 : Int)) = 2 from rfl] at h2
    have e0 : ((Nat.cast (List.length (w :: l)) : Int) == (0 : Int)) = false := by rw [beq_eq_false_iff_ne, List.length_cons]; omega
    have e1 : decide ((0 : Int) < (Nat.cast (List.length (w :: l)) : Int)) = true := decide_eq_true (by rw [List.length_cons]; omega)
    have e2 : decide ((0 : Int) ≤ (0 : Int)) = true := by decide
    have e3 : decide ((0 : Int) ≤ (1 : Int)) = true := by decide
    have e4 : decide ((0 : Int) ≤ (2 : Int)) = true := by decide
    simp only [e0, e1, e2, e3, e4, cond_false, cond_true, Bool.and_self, Bool.true_and] at h2
    cases hw : X.R06_Isword w with
    | false => rw [hw] at h2; exact zero h2
    | true =>
      obtain ⟨w0, w1⟩ := isw_iff hw
      rw [hw] at h2
      cases hs : search w forms with
      | none =>
        rw [shape_none w0 w1 hs] at h2
        exact zero h2
      | some p =>
        obtain ⟨f, b⟩ := p
        rw [shape_hit w0 w1 hs] at h2
        have g := good_of (w := w) hs
        have back := fun i hv => first_back w0 w1 hs (i := i) hv
        generalize mk f b w = j at g h2 back
        simp only [Bool.not_true, cond_false, part_ext g.src, part_ext g.dst] at h2
        have fin : ∀ (s d : M.Operand) (m : Int), s.Mode = j.Src.Mode → s.Reg = j.Src.Reg → d.Mode = j.Dst.Mode → d.Reg = j.Dst.Reg →
            (bif (!(X.R06_Valid (⟨j.Op, j.Byte, s, d, j.Reg, j.Num⟩ : M.Inst))) then some ((⟨(0 : Int), false, (⟨(0 : Int), (0 : Int), (0 : Int)⟩ : M.Operand), (⟨(0 : Int), (0 : Int), (0 : Int)⟩ : M.Operand), (0 : Int), (0 : Int)⟩ : M.Inst), (0 : Int), ()) else some ((⟨j.Op, j.Byte, s, d, j.Reg, j.Num⟩ : M.Inst), m, ())) = some (i, n, u) →
            (∀ i', i' = (⟨j.Op, j.Byte, s, d, j.Reg, j.Num⟩ : M.Inst) → X.R06_first i' = w → ∃ rest, w :: l = wds i' ++ rest ∧ m = ((wds i').length : Int)) →
            (n = 0 ∧ i = zeroI) ∨ (∃ rest, w :: l = wds i ++ rest ∧ n = ((wds i).length : Int) ∧ X.R06_Valid i = true) := fun s d m q1 q2 q3 q4 h k => by
          cases hv : X.R06_Valid (⟨j.Op, j.Byte, s, d, j.Reg, j.Num⟩ : M.Inst) with
          | false => rw [hv] at h; exact zero h
          | true =>
            rw [hv] at h
            cases h
            right
            have hf := back _ hv rfl rfl (by unfold fld; dsimp only; rw [q1, q2]) (by unfold fld; dsimp only; rw [q3, q4]) rfl rfl
            obtain ⟨rest, k1, k2⟩ := k _ rfl hf
            exact ⟨rest, k1, k2, hv⟩
        have g1 : decide ((1 : Int) ≥ (Nat.cast (List.length (w :: l)) : Int)) = !decide ((1 : Int) < (Nat.cast (List.length (w :: l)) : Int)) := by rw [← decide_not]; exact decide_eq_decide.2 (by omega)
        have g2 : decide ((2 : Int) ≥ (Nat.cast (List.length (w :: l)) : Int)) = !decide ((2 : Int) < (Nat.cast (List.length (w :: l)) : Int)) := by rw [← decide_not]; exact decide_eq_decide.2 (by omega)
        have ee : ∀ (o : M.Operand) (x : Int), X.R05_Extended ⟨o.Mode, o.Reg, x⟩ = X.R05_Extended o := fun _ _ => rfl
        cases hS : X.R05_Extended j.Src with
        | false =>
          cases hD : X.R05_Extended j.Dst with
          | false =>
            simp only [hS, hD, cond_false] at h2
            refine fin j.Src j.Dst 1 rfl rfl rfl rfl h2 fun i' hi hf => ⟨l, ?_, ?_⟩
            · subst hi; unfold wds exs; rw [hf, hS, hD]; rfl
            · subst hi; rw [wds_len, hS, hD]; rfl
          | true =>
            simp only [hS, hD, cond_false, cond_true, g1] at h2
            cases l with
            | nil => exact zero h2
            | cons x l =>
              have e5 : decide ((1 : Int) < (Nat.cast (List.length (w :: x :: l)) : Int)) = true := by simp; omega
              simp only [e5, Bool.not_true, cond_false, cond_true] at h2
              generalize hg : List.getD (w :: x :: l) (1 : Nat) (dflt (Ty.int IntKind.i64)) = x' at h2
              obtain rfl : x = x' := hg
              cases hx : X.R06_Isword x with
              | false => rw [hx] at h2; exact zero h2
              | true =>
                rw [hx] at h2
                refine fin j.Src ⟨j.Dst.Mode, j.Dst.Reg, x⟩ 2 rfl rfl rfl rfl h2 fun i' hi hf => ⟨l, ?_, ?_⟩
                · subst hi; unfold wds exs; rw [hf, hS]; dsimp only; rw [ee, hD]; rfl
                · subst hi; rw [wds_len, hS]; dsimp only; rw [ee, hD]; rfl
        | true =>
          simp only [hS, cond_true, g1] at h2
          cases l with
          | nil => exact zero h2
          | cons x l =>
            have e5 : decide ((1 : Int) < (Nat.cast (List.length (w :: x :: l)) : Int)) = true := by simp; omega
            simp only [e5, Bool.not_true, cond_false, cond_true] at h2
            generalize hg : List.getD (w :: x :: l) (1 : Nat) (dflt (Ty.int IntKind.i64)) = x' at h2
            obtain rfl : x = x' := hg
            cases hx : X.R06_Isword x with
            | false => rw [hx] at h2; exact zero h2
            | true =>
              rw [hx] at h2
              cases hD : X.R05_Extended j.Dst with
              | false =>
                simp only [hD, cond_false, Bool.not_true] at h2
                refine fin ⟨j.Src.Mode, j.Src.Reg, x⟩ j.Dst 2 rfl rfl rfl rfl h2 fun i' hi hf => ⟨l, ?_, ?_⟩
                · subst hi; unfold wds exs; rw [hf]; dsimp only; rw [ee, hS, hD]; rfl
                · subst hi; rw [wds_len]; dsimp only; rw [ee, hS, hD]; rfl
              | true =>
                simp only [hD, cond_false, cond_true, Bool.not_true, g2] at h2
                cases l with
                | nil => exact zero h2
                | cons y l =>
                  have e6 : decide ((2 : Int) < (Nat.cast (List.length (w :: x :: y :: l)) : Int)) = true := by simp; omega
                  simp only [e6, Bool.not_true, cond_false, cond_true] at h2
                  generalize hg : List.getD (w :: x :: y :: l) (Int.toNat 2) (dflt (Ty.int IntKind.i64)) = y' at h2
                  obtain rfl : y = y' := hg
                  cases hy : X.R06_Isword y with
                  | false => rw [hy] at h2; exact zero h2
                  | true =>
                    rw [hy] at h2
                    refine fin ⟨j.Src.Mode, j.Src.Reg, x⟩ ⟨j.Dst.Mode, j.Dst.Reg, y⟩ 3 rfl rfl rfl rfl h2 fun i' hi hf => ⟨l, ?_, ?_⟩
                    · subst hi; unfold wds exs; rw [hf]; dsimp only; rw [ee j.Src x, ee j.Dst y, hS, hD]; rfl
                    · subst hi; rw [wds_len]; dsimp only; rw [ee j.Src x, ee j.Dst y, hS, hD]; rfl
end PL
end Go.Proofs.Ytnonimnhninafaa.Ab
