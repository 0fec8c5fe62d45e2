/- What an operation looks at. -/
import Derived.Test.YtnonimnhninafaaAbDraw
namespace Go.Proofs.Ytnonimnhninafaa.Ab
open Go
set_option linter.unusedVariables false
set_option linter.unusedSimpArgs false

def lb : Tr → List Nat
  | .ptr d _ _ _ => [d]
  | .own d _ _ _ => [d]
  | _ => []

def foot (L : Nat) (rd : Operand → Tr) : Op → List Nat
  | .alloc _ => [L]
  | .box _ _ => [L]
  | .buildSlice _ _ _ => [L]
  | .makeSlice _ _ _ => [L]
  | .load _ x => lb (rd x)
  | .store _ x _ => lb (rd x)
  | .nilCheck x => lb (rd x)
  | .slice _ x _ _ _ => lb (rd x)
  | .fieldAddr _ x _ => lb (rd x)
  | .indexAddr _ x _ => lb (rd x)
  | .call c => L :: c.args.toList.flatMap fun x => lb (rd x)
  | _ => []

section
variable {Θ : Tab} {H H' : Heap} {L : Nat}

theorem aAt_congr {x : Tr} (h : ∀ d ∈ lb x, H' d = H d) : aAt H' x = aAt H x := by
  cases x <;> simp only [lb, List.mem_singleton, forall_eq] at h <;> first | rfl | simp only [aAt, h]
theorem aPut_congr {x v : Tr} (h : ∀ d ∈ lb x, H' d = H d) : aPut H' x v = aPut H x v := by
  cases x <;> simp only [lb, List.mem_singleton, forall_eq] at h <;> first | rfl | simp only [aPut, h]
theorem aLoad_congr {t : TypeId} {x : Tr} (h : ∀ d ∈ lb x, H' d = H d) : aLoad Θ H' t x = aLoad Θ H t x := by unfold aLoad; rw [aAt_congr h]
theorem aStore_congr {t : TypeId} {x v : Tr} (h : ∀ d ∈ lb x, H' d = H d) : aStore Θ H' t x v = aStore Θ H t x v := by unfold aStore; rw [aAt_congr h, aPut_congr h]
theorem aFieldAddr_congr {t : TypeId} {x : Tr} {f : Nat} (h : ∀ d ∈ lb x, H' d = H d) : aFieldAddr Θ H' t x f = aFieldAddr Θ H t x f := by
  cases x <;> simp only [lb, List.mem_singleton, forall_eq] at h <;> first | rfl | (simp only [aFieldAddr, h]; done) | (rename_i y; cases y <;> rfl)
theorem aIndexAddr_congr {t : TypeId} {x i : Tr} (h : ∀ d ∈ lb x, H' d = H d) : aIndexAddr Θ H' t x i = aIndexAddr Θ H t x i := by
  cases x <;> simp only [lb, List.mem_singleton, forall_eq] at h <;> first | rfl | (simp only [aIndexAddr, h]; done) | (rename_i y; cases y <;> rfl)
theorem aSlice_congr {t : TypeId} {x : Tr} {lo hi : Option Tr} (h : ∀ d ∈ lb x, H' d = H d) : aSlice Θ H' t x lo hi = aSlice Θ H t x lo hi := by
  unfold aSlice
  cases Θ t with
  | none => rfl
  | some ti =>
    cases ti with
    | mk k _ _ _ =>
      cases k <;> cases x <;> first | rfl | (simp only [lb, List.mem_singleton, forall_eq] at h; simp only [h])
theorem aLen_congr {t : TypeId} {x : Tr} (h : ∀ d ∈ lb x, H' d = H d) : aLen Θ H' t x = aLen Θ H t x := by
  unfold aLen
  cases Θ t with
  | none => rfl
  | some ti =>
    cases ti with
    | mk k _ _ _ =>
      cases k <;> cases x <;> first | rfl | (simp only [lb, List.mem_singleton, forall_eq] at h; simp only [h])
theorem aElems_congr {n : Nat} {x : Tr} (h : ∀ d ∈ lb x, H' d = H d) : aElems H' n x = aElems H n x := by
  cases x <;> simp only [lb, List.mem_singleton, forall_eq] at h <;> first | rfl | simp only [aElems, h]
theorem aAppend_congr {t u : TypeId} {x y : Tr} (hL : H' L = H L) (hx : ∀ d ∈ lb x, H' d = H d) (hy : ∀ d ∈ lb y, H' d = H d) : aAppend Θ H' L t u x y = aAppend Θ H L t u x y := by
  unfold aAppend
  by_cases htu : t = u
  · rw [if_pos htu, if_pos htu]
    cases Θ t with
    | none => rfl
    | some ti =>
      cases ti with
      | mk k _ _ _ =>
        cases k with
        | slice e =>
          dsimp only
          cases Θ e with
          | none => rfl
          | some ei =>
            dsimp only
            rw [aElems_congr hy]
            cases aElems H ei.size y with
            | none => rfl
            | some ys => cases x <;> first | rfl | (simp only [lb, List.mem_singleton, forall_eq] at hx; simp only [hx]; done) | (simp only [hL]; done) | (simp only [lb, List.mem_singleton, forall_eq] at hx; rename_i d g lo n; cases lo <;> first | rfl | (simp only [hx]; done))
        | _ => rfl
  · rw [if_neg htu, if_neg htu]
theorem aCopy_congr {t : TypeId} {x y : Tr} (hx : ∀ d ∈ lb x, H' d = H d) (hy : ∀ d ∈ lb y, H' d = H d) : aCopy Θ H' t x y = aCopy Θ H t x y := by
  unfold aCopy
  cases Θ t with
  | none => rfl
  | some ti =>
    cases ti with
    | mk k _ _ _ =>
      cases k with
      | slice e =>
        dsimp only
        cases Θ e with
        | none => cases x <;> rfl
        | some ei => cases x <;> first | rfl | (simp only [lb, List.mem_singleton, forall_eq] at hx; simp only [hx, aElems_congr hy]; done)
      | _ => rfl

theorem aBuiltin_congr {b : Builtin} {tys : List TypeId} {args : List Tr} (hL : H' L = H L) (h : ∀ x ∈ args, ∀ d ∈ lb x, H' d = H d) : aBuiltin Θ H' L b tys args = aBuiltin Θ H L b tys args := by
  unfold aBuiltin
  split
  · rw [aLen_congr (h _ (by simp))]
  · rw [aAppend_congr hL (h _ (by simp)) (h _ (by simp))]
  · rw [aCopy_congr (h _ (by simp)) (h _ (by simp))]
  · rfl
  · rfl
  · rfl

theorem map_rd {rd rd' : Operand → Tr} {l : List Operand} (h : ∀ x ∈ l, rd' x = rd x) : l.map rd' = l.map rd := List.map_congr_left h
theorem map_rd2 {rd rd' : Operand → Tr} {l : List (Nat × Operand)} (h : ∀ x ∈ l.map (·.2), rd' x = rd x) : (l.map fun p => (p.1, rd' p.2)) = l.map fun p => (p.1, rd p.2) := by
  refine List.map_congr_left fun p hp => ?_
  rw [h p.2 (List.mem_map_of_mem hp)]

theorem aOp_congr {rd rd' : Operand → Tr} {op : Op} (h1 : ∀ x ∈ op.operands, rd' x = rd x) (h2 : ∀ d ∈ foot L rd op, H' d = H d) : aOp Θ H' L rd' op = aOp Θ H L rd op := by
  cases op with
  | move x => simp only [aOp, h1 x (by simp [Op.operands])]
  | assign x => simp only [aOp, h1 x (by simp [Op.operands])]
  | pick c a b => simp only [aOp, h1 c (by simp [Op.operands]), h1 a (by simp [Op.operands]), h1 b (by simp [Op.operands])]
  | alloc t => simp only [aOp, h2 L (by simp [foot])]
  | box t x => simp only [aOp, h1 x (by simp [Op.operands]), h2 L (by simp [foot])]
  | build t ps => simp only [aOp, map_rd2 (l := ps.toList) (fun x hx => h1 x (by simpa [Op.operands] using hx))]
  | buildSlice t n ps => simp only [aOp, map_rd2 (l := ps.toList) (fun x hx => h1 x (by simpa [Op.operands] using hx)), h2 L (by simp [foot])]
  | load t x => simp only [aOp, h1 x (by simp [Op.operands]), aLoad_congr h2]
  | store t x v => simp only [aOp, h1 x (by simp [Op.operands]), h1 v (by simp [Op.operands]), aStore_congr h2]
  | nilCheck x =>
    simp only [foot] at h2
    simp only [aOp, h1 x (by simp [Op.operands])]
    generalize rd x = y at *
    cases y <;> simp only [lb, List.mem_singleton, forall_eq] at h2 <;> first | rfl | simp only [h2]
  | binOp o t x y t' => simp only [aOp, h1 x (by simp [Op.operands]), h1 y (by simp [Op.operands])]
  | unOp o t x => simp only [aOp, h1 x (by simp [Op.operands])]
  | convert s t x => simp only [aOp, h1 x (by simp [Op.operands])]
  | makeFunc c fs cs =>
    have e : cs.toList.map rd' = cs.toList.map rd := map_rd fun x hx => h1 x (by simp only [Op.operands, Array.mem_append]; exact .inr (by simpa using hx))
    cases c <;> first | rfl | (simp only [aOp, e]; done)
  | makeSlice t x y => simp only [aOp, h1 x (by simp [Op.operands]), h1 y (by simp [Op.operands]), aMakeSlice, h2 L (by simp [foot])]
  | slice t x lo hi mx =>
    have e1 : lo.map rd' = lo.map rd := by cases lo <;> simp_all [Op.operands]
    have e2 : hi.map rd' = hi.map rd := by cases hi <;> simp_all [Op.operands]
    cases mx with
    | none => simp only [aOp, h1 x (by simp [Op.operands]), e1, e2, aSlice_congr h2]
    | some m => rfl
  | fieldAddr t x f => simp only [aOp, h1 x (by simp [Op.operands]), aFieldAddr_congr h2]
  | field t x f => simp only [aOp, h1 x (by simp [Op.operands])]
  | indexAddr t x i => simp only [aOp, h1 x (by simp [Op.operands]), h1 i (by simp [Op.operands]), aIndexAddr_congr h2]
  | index t x i => simp only [aOp, h1 x (by simp [Op.operands]), h1 i (by simp [Op.operands])]
  | extract x i => simp only [aOp, h1 x (by simp [Op.operands])]
  | call c =>
    obtain ⟨cal, args, tys⟩ := c
    cases cal with
    | builtin b =>
      have e : args.toList.map rd' = args.toList.map rd := map_rd fun x hx => h1 x (by simpa [Op.operands, Call.operands] using hx)
      simp only [aOp, e]
      refine aBuiltin_congr (h2 L (by simp [foot])) fun y hy d hd => h2 d ?_
      simp only [foot, List.mem_cons, List.mem_flatMap]
      obtain ⟨x, hx, rfl⟩ := List.mem_map.1 hy
      exact .inr ⟨x, hx, hd⟩
    | _ => rfl
  | _ => rfl
end
end Go.Proofs.Ytnonimnhninafaa.Ab
