/- Tables of contracts; totals. -/
import Derived.Test.YtnonimnhninafaaAbTyp
namespace Go.Proofs.Ytnonimnhninafaa.Ab
open Go

def cnil : FuncId → Option Con := fun _ => none
def cadd (g : FuncId) (c : Con) (C : FuncId → Option Con) : FuncId → Option Con := fun f => bif Nat.beq f g then some c else C f
theorem consOK_nil {P : Program} : ConsOK P cnil := fun _ _ h => by cases h
theorem consOK_add {P : Program} {g : FuncId} {c : Con} {C : FuncId → Option Con} (h : ConOK P g c) (k : ConsOK P C) : ConsOK P (cadd g c C) := fun f con hf => by
  unfold cadd at hf
  cases hb : Nat.beq f g with
  | true =>
    rw [hb] at hf
    have e := Nat.eq_of_beq_eq_true hb
    subst e
    obtain rfl := Option.some.inj hf
    exact h
  | false => rw [hb] at hf; exact k f con hf

def clist : List (Nat × Con) → FuncId → Option Con
  | [], _ => none
  | (g, c) :: l, f => bif Nat.beq f g then some c else clist l f
theorem cl_nil {P : Program} : ConsOK P (clist []) := fun _ _ h => by cases h
theorem cl_cons {P : Program} {g : FuncId} {c : Con} {l : List (Nat × Con)} (h : ConOK P g c) (k : ConsOK P (clist l)) : ConsOK P (clist ((g, c) :: l)) := fun f con hf => by
  unfold clist at hf
  cases hb : Nat.beq f g with
  | true =>
    rw [hb] at hf
    have e := Nat.eq_of_beq_eq_true hb
    subst e
    obtain rfl := Option.some.inj hf
    exact h
  | false => rw [hb] at hf; exact k f con hf

def jlist : List (Nat × Nat) → Nat → Option Tmp
  | [], _ => none
  | (g, c) :: l, f => bif Nat.beq f g then some c else jlist l f

def gnil : Nat → Option Seg := fun _ => none
theorem segsOK_nil {P : Program} {nt : Nat} : ∀ c : Code, SegsOK P nt gnil c
  | .seq a b => ⟨segsOK_nil a, segsOK_nil b⟩
  | .cond _ a b => ⟨segsOK_nil a, segsOK_nil b⟩
  | .block _ c => segsOK_nil c
  | .scope c => segsOK_nil c
  | .loop c => ⟨(fun i g _ h => by cases h), segsOK_nil c⟩
  | .skip => trivial
  | .label _ => trivial
  | .ret => trivial
  | .exit _ => trivial
  | .region _ _ _ => trivial
  | .rangeFunc _ _ _ _ => trivial
  | .goto _ => trivial
  | .refuse _ => trivial

def bodyOf (f : Func) : Code := f.body.getD .skip

theorem con_of {f : FuncId} {fn : Func} {C : FuncId → Option Con} {J : Nat → Option Tmp} {G : Nat → Option Seg} {N : Nat} {ps rc : List Ty} {m : HL ps → Option (HL rc)} (hC : ConsOK Try.prog C) (hG : SegsOK Try.prog fn.ntmps G (bodyOf fn)) (hd : dOKs ps = true) (hr : dOKs rc = true)
    (hf : Try.prog.funcs[f]? = some fn) (hb : fn.body.isSome = true) (hent : Enters Try.prog f) (hl : Nat.ble ps.length fn.ntmps = true)
    (h : ∀ x, evF Θ tyOf C fn.ntmps J G N (bodyOf fn) fn.results.toList ps rc x = m x) : ConOK Try.prog f ⟨ps, rc, m⟩ :=
  evF_ok tabOK mixedOK typOK hC hG hd hr hf (by cases hb' : fn.body with
    | none => rw [hb'] at hb; cases hb
    | some c => simp [bodyOf, hb']) rfl rfl hent (Nat.le_of_ble_eq_true hl) h

theorem cond_some {α : Type} (b : Bool) (x y : α) : (bif b then some x else some y) = some (bif b then x else y) := by cases b <;> rfl
theorem cond_prod {α β : Type} (b : Bool) (x y : α) (u v : β) : (bif b then (x, u) else (y, v)) = (bif b then x else y, bif b then u else v) := by cases b <;> rfl
theorem cond_fst {α β : Type} (b : Bool) (p q : α × β) : (bif b then p else q).1 = bif b then p.1 else q.1 := by cases b <;> rfl
theorem cond_snd {α β : Type} (b : Bool) (p q : α × β) : (bif b then p else q).2 = bif b then p.2 else q.2 := by cases b <;> rfl
theorem cond_unit (b : Bool) (u v : Unit) : (bif b then u else v) = () := rfl
theorem cond_ite {α : Type} (b : Bool) (x y : α) : (bif b then x else y) = if b = true then x else y := by cases b <;> rfl
end Go.Proofs.Ytnonimnhninafaa.Ab
