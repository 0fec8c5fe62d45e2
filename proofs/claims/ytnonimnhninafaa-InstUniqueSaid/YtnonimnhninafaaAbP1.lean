/- Which form a word has: the loop as a search. -/
import Derived.Test.YtnonimnhninafaaAbIM
import Derived.Test.YtnonimnhninafaaAbInt
namespace Go.Proofs.Ytnonimnhninafaa.Ab
open Go
namespace PL

def forms : List M.Inst_form := [
  ⟨4096, 12, 1, 1, true⟩, ⟨8192, 12, 2, 1, true⟩, ⟨12288, 12, 3, 1, true⟩, ⟨16384, 12, 4, 1, true⟩,
  ⟨20480, 12, 5, 1, true⟩, ⟨24576, 12, 6, 1, false⟩, ⟨57344, 12, 7, 1, false⟩, ⟨28672, 9, 8, 5, false⟩,
  ⟨29184, 9, 9, 5, false⟩, ⟨29696, 9, 10, 5, false⟩, ⟨30720, 9, 11, 6, false⟩, ⟨2560, 6, 12, 3, true⟩,
  ⟨2624, 6, 13, 3, true⟩, ⟨2688, 6, 14, 3, true⟩, ⟨2752, 6, 15, 3, true⟩, ⟨2816, 6, 16, 3, true⟩,
  ⟨2880, 6, 17, 3, true⟩, ⟨2944, 6, 18, 3, true⟩, ⟨3008, 6, 19, 3, true⟩, ⟨3072, 6, 20, 3, true⟩,
  ⟨3136, 6, 21, 3, true⟩, ⟨3200, 6, 22, 3, true⟩, ⟨3264, 6, 23, 3, true⟩, ⟨192, 6, 24, 3, false⟩,
  ⟨3520, 6, 25, 3, false⟩, ⟨3392, 6, 55, 2, false⟩, ⟨3456, 6, 56, 3, false⟩, ⟨64, 6, 41, 4, false⟩,
  ⟨2048, 9, 42, 7, false⟩, ⟨128, 3, 43, 8, false⟩, ⟨32256, 9, 44, 10, false⟩, ⟨256, 8, 26, 9, false⟩,
  ⟨512, 8, 27, 9, false⟩, ⟨768, 8, 28, 9, false⟩, ⟨1024, 8, 29, 9, false⟩, ⟨1280, 8, 30, 9, false⟩,
  ⟨1536, 8, 31, 9, false⟩, ⟨1792, 8, 32, 9, false⟩, ⟨32768, 8, 33, 9, false⟩, ⟨33024, 8, 34, 9, false⟩,
  ⟨33280, 8, 35, 9, false⟩, ⟨33536, 8, 36, 9, false⟩, ⟨33792, 8, 37, 9, false⟩, ⟨34048, 8, 38, 9, false⟩,
  ⟨34304, 8, 39, 9, false⟩, ⟨34560, 8, 40, 9, false⟩, ⟨34816, 8, 45, 11, false⟩, ⟨35072, 8, 46, 11, false⟩,
  ⟨160, 4, 53, 12, false⟩, ⟨176, 4, 54, 12, false⟩, ⟨0, 0, 50, 0, false⟩, ⟨1, 0, 51, 0, false⟩,
  ⟨2, 0, 49, 0, false⟩, ⟨3, 0, 47, 0, false⟩, ⟨4, 0, 48, 0, false⟩, ⟨5, 0, 52, 0, false⟩]

theorem forms_eq : Vector.toList X.inst_forms = forms := by kernel_rfl

def hit (f : M.Inst_form) (w : Int) : Int := IntKind.wrap IntKind.i64 ((Int.fdiv w ((2 : Int) ^ (Min.min (Int.toNat f.bits) (IntKind.bits IntKind.i64)))) * ((2 : Int) ^ (Min.min (Int.toNat f.bits) (IntKind.bits IntKind.i64))))

def search (w : Int) : List M.Inst_form → Option (M.Inst_form × Bool)
  | [] => none
  | f :: fs => bif hit f w == f.first then some (f, false) else bif hit f w == bitOf BinOp.or IntKind.i64 f.first 32768 then bif f.bytes then some (f, true) else search w fs else search w fs

theorem forms_bits : forms.all (fun f => decide (0 ≤ f.bits)) = true := by decide

theorem getD_of {α : Type} {l : List α} {i : Nat} {f d : α} (h : l[i]? = some f) : List.getD l i d = f := by rw [List.getD_eq_getElem?_getD, h]; rfl

theorem it_next {X E F R : Type} {b : X → Option (Out X E F R)} {n : Nat} {x x' : X} (h : b x = some (.next x')) : iterO b (n + 1) x = iterO b n x' := by simp only [iterO, h]
theorem it_ret {X E F R : Type} {b : X → Option (Out X E F R)} {n : Nat} {x : X} {r : R} (h : b x = some (.ret r)) : iterO b (n + 1) x = some (.ret r) := by simp only [iterO, h]
theorem it_brk {X E F R : Type} {b : X → Option (Out X E F R)} {n : Nat} {x : X} {r : E} (h : b x = some (.brk r)) : iterO b (n + 1) x = some (.brk r) := by simp only [iterO, h]

abbrev St := (Int × (Vector M.Inst_form 56) × Int × Unit) × (M.Inst_form × Unit)

theorem step {w : Int} {i : Nat} {z : M.Inst_form} (hi : i < 56) {f : M.Inst_form} (hf : forms[i]? = some f) :
    X.inst_formOf_b2 ((w, (X.inst_forms, ((i : Int), ()))), (z, ())) =
      (bif hit f w == f.first then some (.ret ((false, (true, ())), (f, ()))) else bif hit f w == bitOf BinOp.or IntKind.i64 f.first 32768 then bif f.bytes then some (.ret ((true, (true, ())), (f, ()))) else
        some (.next ((w, (X.inst_forms, (((i + 1 : Nat) : Int), ()))), (z, ()))) else some (.next ((w, (X.inst_forms, (((i + 1 : Nat) : Int), ()))), (z, ())))) := by
  have hg : List.getD (Vector.toList X.inst_forms) (Int.toNat (i : Int)) (dflt (Ty.st SId.sInst_form)) = f := by
    rw [forms_eq, Int.toNat_natCast]; exact getD_of hf
  have hb : (0 : Int) ≤ f.bits := by
    have := forms_bits
    simp only [List.all_eq_true, decide_eq_true_eq] at this
    exact this f (List.mem_of_getElem? hf)
  have hw : IntKind.wrap IntKind.i64 ((i : Int) + 1) = ((i + 1 : Nat) : Int) := by rw [wrap64 (by omega) (by omega)]; rfl
  unfold X.inst_formOf_b2
  simp only [hg, hw]
  have h1 : decide ((i : Int) < 56) = true := by simp; omega
  have h2 : (decide ((0 : Int) ≤ (i : Int)) && decide ((i : Int) < (Nat.cast 56 : Int))) = true := by simp; omega
  have h3 : decide ((0 : Int) ≤ f.bits) = true := by simp [hb]
  simp only [h1, h2, h3, cond_true]
  rfl

theorem stop {w : Int} {z : M.Inst_form} : X.inst_formOf_b2 ((w, (X.inst_forms, ((56 : Nat) : Int), ())), (z, ())) = some (.brk ((), (z, ()))) := by
  unfold X.inst_formOf_b2
  have h1 : decide (((56 : Nat) : Int) < 56) = false := by decide
  simp only [h1, cond_false]

theorem loop {w : Int} {z : M.Inst_form} : ∀ (k i fuel : Nat), k + i = 56 → k < fuel → iterO X.inst_formOf_b2 fuel ((w, (X.inst_forms, ((i : Int), ()))), (z, ())) =
    some (match search w (forms.drop i) with
      | some (f, b) => .ret ((b, (true, ())), (f, ()))
      | none => .brk ((), (z, ())))
  | 0, i, fuel + 1, hk, _ => by
    obtain rfl : i = 56 := by omega
    have e : forms.drop 56 = [] := by rfl
    rw [e]
    exact it_brk stop
  | k + 1, i, fuel + 1, hk, hl => by
    have hi : i < 56 := by omega
    have hlen : forms.length = 56 := rfl
    obtain ⟨f, hf⟩ : ∃ f, forms[i]? = some f := ⟨forms[i]'(by omega), by simp⟩
    have hd : forms.drop i = f :: forms.drop (i + 1) := by
      rw [List.drop_eq_getElem_cons (by omega)]
      congr 1
      exact Option.some.inj ((List.getElem?_eq_getElem (by omega)).symm.trans hf)
    have ih := loop (w := w) (z := z) k (i + 1) fuel (by omega) (by omega)
    rw [hd]
    have hs := step (w := w) (z := z) hi hf
    unfold search
    cases h1 : (hit f w == f.first) with
    | true => rw [h1] at hs; exact it_ret hs
    | false =>
      rw [h1] at hs
      cases h2 : (hit f w == bitOf BinOp.or IntKind.i64 f.first 32768) with
      | true =>
        rw [h2] at hs
        cases h3 : f.bytes with
        | true => rw [h3] at hs; exact it_ret hs
        | false => rw [h3] at hs; exact (it_next hs).trans ih
      | false => rw [h2] at hs; exact (it_next hs).trans ih

theorem formOf_eq (w : Int) : X.inst_formOf w = some (match search w forms with
    | some (f, b) => (f, b, true, ())
    | none => (⟨0, 0, 0, 0, false⟩, false, false, ())) := by
  unfold X.inst_formOf X.inst_formOf_l2
  have := loop (w := w) (z := ⟨0, 0, 0, 0, false⟩) 56 0 (100 + Int.toNat w + Int.toNat 0) rfl (by omega)
  have e : ((w, (X.inst_forms, ((0 : Int), ()))), ((⟨0, 0, 0, 0, false⟩ : M.Inst_form), ())) = (((w, (X.inst_forms, (((0 : Nat) : Int), ()))), ((⟨0, 0, 0, 0, false⟩ : M.Inst_form), ())) : St) := rfl
  simp only [e, this, List.drop_zero]
  cases search w forms with
  | none => rfl
  | some p => rfl

theorem search_some {w : Int} : ∀ {fs : List M.Inst_form} {f : M.Inst_form} {b : Bool}, search w fs = some (f, b) → f ∈ fs ∧ (b = false ∧ hit f w = f.first ∨ b = true ∧ f.bytes = true ∧ hit f w = bitOf BinOp.or IntKind.i64 f.first 32768)
  | [], f, b, h => by simp [search] at h
  | g :: fs, f, b, h => by
    unfold search at h
    cases h1 : (hit g w == g.first) with
    | true =>
      rw [h1] at h
      simp only [cond_true, Option.some.injEq, Prod.mk.injEq] at h
      obtain ⟨rfl, rfl⟩ := h
      exact ⟨by simp, .inl ⟨rfl, by simpa using h1⟩⟩
    | false =>
      rw [h1] at h
      cases h2 : (hit g w == bitOf BinOp.or IntKind.i64 g.first 32768) with
      | true =>
        rw [h2] at h
        cases h3 : g.bytes with
        | true =>
          rw [h3] at h
          simp only [cond_true, cond_false, Option.some.injEq, Prod.mk.injEq] at h
          obtain ⟨rfl, rfl⟩ := h
          exact ⟨by simp, .inr ⟨rfl, h3, by simpa using h2⟩⟩
        | false =>
          rw [h3] at h
          obtain ⟨k1, k2⟩ := search_some (fs := fs) h
          exact ⟨by simp [k1], k2⟩
      | false =>
        rw [h2] at h
        obtain ⟨k1, k2⟩ := search_some (fs := fs) h
        exact ⟨by simp [k1], k2⟩

theorem search_none {w : Int} : ∀ {fs : List M.Inst_form}, search w fs = none → ∀ f ∈ fs, hit f w ≠ f.first ∧ (f.bytes = true → hit f w ≠ bitOf BinOp.or IntKind.i64 f.first 32768)
  | [], h, f, hf => by simp at hf
  | g :: fs, h, f, hf => by
    unfold search at h
    cases h1 : (hit g w == g.first) with
    | true => rw [h1] at h; cases h
    | false =>
      rw [h1] at h
      cases h2 : (hit g w == bitOf BinOp.or IntKind.i64 g.first 32768) with
      | true =>
        rw [h2] at h
        cases h3 : g.bytes with
        | true => rw [h3] at h; cases h
        | false =>
          rw [h3] at h
          rcases List.mem_cons.1 hf with rfl | hf
          · exact ⟨by simpa using h1, fun h4 => by rw [h3] at h4; cases h4⟩
          · exact search_none (fs := fs) h f hf
      | false =>
        rw [h2] at h
        rcases List.mem_cons.1 hf with rfl | hf
        · exact ⟨by simpa using h1, fun _ => by simpa using h2⟩
        · exact search_none (fs := fs) h f hf

end PL
end Go.Proofs.Ytnonimnhninafaa.Ab
