/- The walk as rewriting: code and what is behind it. -/
import Derived.Test.YtnonimnhninafaaAbChk
import Derived.Test.YtnonimnhninafaaAbDraw2
import Derived.Test.YtnonimnhninafaaAbCall
import Derived.LoopN
import Derived.Test.YtnonimnhninafaaAbInt
namespace Go.Proofs.Ytnonimnhninafaa.Ab
open Go

/-- A region whose order is drawn bears what its operations have looked at and turned. -/
abbrev Drw := Option (Array Oper × List (List Nat × Option Nat))

def nxtD (D : Drw) (rl : List Nat) (wl : Option Nat) : Drw :=
  match D with
  | none => none
  | some (ops, acc) => some (ops, (rl, wl) :: acc)

def callX (P : Program) (D : Drw) (f : FuncId) (args : List Tr) (H : Heap) (R : Drw → Tr → Heap → Prop) : Prop :=
  match D with
  | none => CallSem P f args H (R none)
  | some (ops, acc) => ∃ (rl : List Nat) (e : Eff), (∀ H', (∀ d ∈ rl, H' d = H d) → CallSem P f args H' fun r H'' => r = e.val ∧ H'' = e.heap H') ∧ R (some (ops, (rl, e.hu.map (·.1)) :: acc)) e.val (e.heap H)

section
variable (P : Program) (Θ : Tab) (nt base : Nat)

def opX (o : Oper) (D : Drw) (K : Drw → St → Prop) (s : St) : Prop :=
  match o.op with
  | .call { callee := .value x, args, argTypes := _ } =>
    match rdOp s.T x with
    | .clo f caps => dstOK nt o.dst = true ∧ callX P D f (args.toList.map (rdOp s.T) ++ caps) s.H fun D' r H' => K D' { T := putT s.T o.dst r, H := H' }
    | _ => False
  | op => match aOp Θ s.H (lab base o.dst) (rdOp s.T) op with
    | some f => dstOK nt o.dst = true ∧ K (nxtD D (foot (lab base o.dst) (rdOp s.T) op) (f.hu.map (·.1))) { T := putT s.T o.dst f.val, H := f.heap s.H }
    | none => False

def wpX (ds : List (Option Tmp)) : List Oper → Drw → (St → Prop) → St → Prop
  | [], none, K, s => K s
  | [], some (ops, acc), K, s => compatB ops acc.reverse = true ∧ K s
  | o :: rest, D, K, s =>
    match o.guard with
    | none => opX P Θ nt base o D (fun D' s => wpX ds rest D' K s) s
    | some (j, want) =>
      match guardT ds s.T j with
      | .bool c => (c = want → opX P Θ nt base o D (fun D' s => wpX ds rest D' K s) s) ∧ (c = !want → dstOK nt o.dst = true ∧ wpX ds rest (nxtD D [] none) K { T := putT s.T o.dst (.tup []), H := s.H })
      | .tup [] => dstOK nt o.dst = true ∧ wpX ds rest (nxtD D [] none) K { T := putT s.T o.dst (.tup []), H := s.H }
      | _ => False
end

section
variable {P : Program} {Θ : Tab} {nt base : Nat}

theorem opX_none {o : Oper} {K : Drw → St → Prop} {s : St} (h : opX P Θ nt base o none K s) : wpop P Θ nt base o (K none) s := by
  unfold opX at h
  unfold wpop
  split at h
  · rename_i x args tys hop
    rw [hop]
    exact h
  · rename_i op hno
    split
    · rename_i x args tys hop
      exact absurd hop (hno _ _ _)
    · split at h
      · rename_i f hf
        rw [hf]
        exact h
      · exact h.elim

theorem wpop_mono {o : Oper} {K K' : St → Prop} {s : St} (h : wpop P Θ nt base o K s) (hk : ∀ s, K s → K' s) : wpop P Θ nt base o K' s := by
  unfold wpop at *
  split at h
  · split at h
    · exact ⟨h.1, h.2.mono fun _ _ hr => hk _ hr⟩
    · exact h.elim
  · split at h
    · exact ⟨h.1, hk _ h.2⟩
    · exact h.elim

theorem wpX_none (ds : List (Option Tmp)) : ∀ (l : List Oper) (K : St → Prop) (s : St), wpX P Θ nt base ds l none K s → wpo P Θ nt base ds l K s
  | [], K, s, h => h
  | o :: l, K, s, h => by
    unfold wpX at h
    unfold wpo
    split at h
    · rename_i hg
      rw [hg]
      exact wpop_mono (opX_none h) fun s hs => wpX_none ds l K s hs
    · rename_i j want hg
      rw [hg]
      split at h
      · rename_i c hc
        simp only [hc]
        exact ⟨fun hc => wpop_mono (opX_none (h.1 hc)) fun s hs => wpX_none ds l K s hs, fun hc => ⟨(h.2 hc).1, wpX_none ds l K _ (h.2 hc).2⟩⟩
      · rename_i hc
        simp only [hc]
        exact ⟨h.1, wpX_none ds l K _ h.2⟩
      · exact h.elim

theorem opX_some {o : Oper} {ops : Array Oper} {acc : List (List Nat × Option Nat)} {K : Drw → St → Prop} {s : St} (h : opX P Θ nt base o (some (ops, acc)) K s) :
    ∃ r, opOK P Θ nt base o s r ∧ K (some (ops, fp r :: acc)) (app o r s) := by
  unfold opX at h
  split at h
  · rename_i x args tys hop
    split at h
    · rename_i f caps hx
      obtain ⟨hd, rl, e, hc, hK⟩ := h
      refine ⟨⟨e, rl⟩, fun s' h1 h2 => ?_, hK⟩
      unfold wpop
      rw [hop]
      have e1 : rdOp s'.T x = rdOp s.T x := h1 x (by rw [hop]; simp [Op.operands, Call.operands])
      have e2 : args.toList.map (rdOp s'.T) = args.toList.map (rdOp s.T) := List.map_congr_left fun y hy => h1 y (by rw [hop]; simp only [Op.operands, Call.operands, Array.mem_append]; exact .inr (by simpa using hy))
      simp only [e1, hx, e2]
      refine ⟨hd, (hc s'.H h2).mono ?_⟩
      rintro r H'' ⟨rfl, rfl⟩
      rfl
    · exact h.elim
  · rename_i op hno
    split at h
    · rename_i f hf
      refine ⟨⟨f, foot (lab base o.dst) (rdOp s.T) o.op⟩, fun s' h1 h2 => ?_, h.2⟩
      have := aOp_congr (Θ := Θ) (L := lab base o.dst) h1 h2
      unfold wpop
      split
      · rename_i x args tys hop
        exact absurd hop (by intro hop; exact hno _ _ _ hop)
      · rw [this, hf]
        exact ⟨h.1, rfl⟩
    · exact h.elim

theorem wpX_some (ops : Array Oper) : ∀ (l : List Oper) (acc : List (List Nat × Option Nat)) (K : St → Prop) (s : St), wpX P Θ nt base (ops.toList.map (·.dst)) l (some (ops, acc)) K s →
    ∃ rs, Recs P Θ nt base ops l s rs ∧ compatB ops (acc.reverse ++ rs.map fp) = true ∧ K (stEnd (l.zip rs) s)
  | [], acc, K, s, h => ⟨[], rfl, by simpa using h.1, h.2⟩
  | o :: l, acc, K, s, h => by
    have go : opX P Θ nt base o (some (ops, acc)) (fun D' s => wpX P Θ nt base (ops.toList.map (·.dst)) l D' K s) s → (∀ r, opOK P Θ nt base o s r → stepOK P Θ nt base ops o s r) → 
        ∃ rs, Recs P Θ nt base ops (o :: l) s rs ∧ compatB ops (acc.reverse ++ rs.map fp) = true ∧ K (stEnd ((o :: l).zip rs) s) := by
      intro h hs
      obtain ⟨r, h1, h2⟩ := opX_some h
      obtain ⟨rs, k1, k2, k3⟩ := wpX_some ops l _ K _ h2
      exact ⟨r :: rs, ⟨r, rs, rfl, hs r h1, k1⟩, by simpa using k2, k3⟩
    unfold wpX at h
    split at h
    · rename_i hg
      exact go h fun r hr => by unfold stepOK; rw [hg]; exact hr
    · rename_i j want hg
      split at h
      · rename_i c hc
        by_cases hcw : c = want
        · exact go (h.1 hcw) fun r hr => by
            unfold stepOK; rw [hg]
            refine .inl ?_
            exact ⟨c, hc, fun _ => hr, fun hn => by rw [hcw] at hn; cases want <;> simp at hn⟩
        · obtain ⟨hd, h2⟩ := h.2 (by cases c <;> cases want <;> simp_all)
          obtain ⟨rs, k1, k2, k3⟩ := wpX_some ops l _ K _ h2
          refine ⟨⟨⟨.tup [], none⟩, []⟩ :: rs, ⟨_, rs, rfl, ?_, k1⟩, by simpa [fp, Rc.wl] using k2, k3⟩
          unfold stepOK; rw [hg]
          exact .inl ⟨c, hc, fun h => absurd h hcw, fun _ => ⟨hd, rfl⟩⟩
      · rename_i hc
        obtain ⟨rs, k1, k2, k3⟩ := wpX_some ops l _ K _ h.2
        refine ⟨⟨⟨.tup [], none⟩, []⟩ :: rs, ⟨_, rs, rfl, ?_, k1⟩, by simpa [fp, Rc.wl] using k2, k3⟩
        unfold stepOK; rw [hg]
        exact .inr ⟨hc, h.1, rfl⟩
      · exact h.elim
end

def wpcX (P : Program) (Θ : Tab) (nt base : Nat) : Code → (Exit → St → Prop) → St → Prop
  | .skip, K, s => K .normal s
  | .label _, K, s => K .normal s
  | .ret, K, s => K .ret s
  | .exit id, K, s => K (.exit id) s
  | .seq a b, K, s => wpcX P Θ nt base a (thenK (wpcX P Θ nt base b K) K) s
  | .cond c x y, K, s =>
    match rdOp s.T c with
    | .bool b => (b = true → wpcX P Θ nt base x K s) ∧ (b = false → wpcX P Θ nt base y K s)
    | _ => False
  | .block id c, K, s => wpcX P Θ nt base c (inBlk id K) s
  | .scope c, K, s => wpcX P Θ nt base c (noGo K) s
  | .region _ ops draw, K, s => wpX P Θ nt base (ops.toList.map (·.dst)) ops.toList (if draw = true then some (ops, []) else none) (K .normal) s
  | .loop c, K, s => WP P nt (.loop c) K s
  | .rangeFunc f ps a b, K, s => WP P nt (.rangeFunc f ps a b) K s
  | .goto _, _, _ => False
  | .refuse _, _, _ => False


section
variable {P : Program} {Θ : Tab} (hΘ : TabOK P Θ) (hm : P.follows .mixedOrders = true)

include hΘ hm in
theorem wpcX_sound {nt base : Nat} : ∀ (c : Code) (K : Exit → St → Prop) (s : St), wpcX P Θ nt base c K s → WP P nt c K s
  | .skip, K, s, h => fun M0 M a g => wp_skip ⟨s, M, rfl, h, g⟩
  | .label _, K, s, h => fun M0 M a g => wp_label ⟨s, M, rfl, h, g⟩
  | .ret, K, s, h => fun M0 M a g => wp_ret ⟨s, M, rfl, h, g⟩
  | .exit id, K, s, h => fun M0 M a g => wp_exit ⟨s, M, rfl, h, g⟩
  | .seq x y, K, s, h => fun M0 M a g => by
    refine wp_seq (wp_mono (wpcX_sound x _ s h M0 M a g) ?_)
    rintro e a' w' ⟨s', M', rfl, hk, g'⟩
    cases e with
    | normal => exact wpcX_sound y K s' hk M0 M' a' g'
    | exit id => exact ⟨s', M', rfl, hk, g'⟩
    | goto l => exact ⟨s', M', rfl, hk, g'⟩
    | ret => exact ⟨s', M', rfl, hk, g'⟩
    | panic ch => exact ⟨s', M', rfl, hk, g'⟩
    | outgrown => exact ⟨s', M', rfl, hk, g'⟩
  | .cond c x y, K, s, h => fun M0 M a g => by
    unfold wpcX at h
    split at h
    · rename_i b hb
      have hv := rd_sound g c
      rw [hb] at hv
      exact wp_cond_split hv.bool_inv (fun hb => wpcX_sound x K s (h.1 hb) M0 M a g) (fun hb => wpcX_sound y K s (h.2 hb) M0 M a g)
    · exact h.elim
  | .block id c, K, s, h => fun M0 M a g => by
    refine wp_block (wp_mono (wpcX_sound c _ s h M0 M a g) ?_)
    rintro e a' w' ⟨s', M', rfl, hk, g'⟩
    cases e with
    | exit id' =>
      simp only [inBlk] at hk
      simp only [Exit.inBlock]
      split at hk
      · rename_i hid; rw [if_pos hid]; exact ⟨s', M', rfl, hk, g'⟩
      · rename_i hid; rw [if_neg hid]; exact ⟨s', M', rfl, hk, g'⟩
    | normal => exact ⟨s', M', rfl, hk, g'⟩
    | goto l => exact ⟨s', M', rfl, hk, g'⟩
    | ret => exact ⟨s', M', rfl, hk, g'⟩
    | panic ch => exact ⟨s', M', rfl, hk, g'⟩
    | outgrown => exact ⟨s', M', rfl, hk, g'⟩
  | .scope c, K, s, h => fun M0 M a g => by
    refine wp_scope_straight (wp_mono (wpcX_sound c _ s h M0 M a g) ?_)
    rintro e a' w' ⟨s', M', rfl, hk, g'⟩
    cases e with
    | goto l => exact hk
    | normal => exact ⟨s', M', rfl, hk, g'⟩
    | exit id => exact ⟨s', M', rfl, hk, g'⟩
    | ret => exact ⟨s', M', rfl, hk, g'⟩
    | panic ch => exact ⟨s', M', rfl, hk, g'⟩
    | outgrown => exact ⟨s', M', rfl, hk, g'⟩
  | .region id ops draw, K, s, h => fun M0 M a g => by
    unfold wpcX at h
    cases draw with
    | true =>
      simp only [if_true] at h
      obtain ⟨rs, k1, k2, k3⟩ := wpX_some ops _ _ _ _ h
      exact WP.draw hΘ hm k1 (by simpa using k2) k3 M0 M a g
    | false =>
      simp only [Bool.false_eq_true, if_false] at h
      exact wp_region_list (wpo_sound hΘ ops (fun a w ⟨s', M', h1, h2, h3⟩ => ⟨s', M', h1, h2, h3⟩) ops.toList s (wpX_none _ _ _ _ h) M a g)
  | .loop c, K, s, h => h
  | .rangeFunc f ps x y, K, s, h => h
  | .goto _, K, s, h => h.elim
  | .refuse _, K, s, h => h.elim

end

/-- What lies behind a piece of code. -/
inductive Stk where
  | nil (K : Exit → St → Prop)
  | code (c : Code) (k : Stk)
  | blk (id : Nat) (k : Stk)
  | scp (k : Stk)
  | cut (J : (Nat → Tr) → Heap → Prop) (k : Stk)

section
variable (P : Program) (Θ : Tab) (nt base : Nat)

def stkK : Stk → Exit → St → Prop
  | .nil K => K
  | .code c k => thenK (wpcX P Θ nt base c (stkK k)) (stkK k)
  | .blk id k => inBlk id (stkK k)
  | .scp k => noGo (stkK k)
  | .cut J k => thenK (fun s => J s.T s.H) (stkK k)

def GoC (c : Code) (k : Stk) (T : Nat → Tr) (H : Heap) : Prop := wpcX P Θ nt base c (stkK P Θ nt base k) { T := T, H := H }
def GoE (e : Exit) (k : Stk) (T : Nat → Tr) (H : Heap) : Prop := stkK P Θ nt base k e { T := T, H := H }
def GoR (ops : List (Option Tmp)) (D : Drw) (l : List Oper) (k : Stk) (T : Nat → Tr) (H : Heap) : Prop := wpX P Θ nt base ops l D (fun s => stkK P Θ nt base k .normal s) { T := T, H := H }
/-- One operation, what is behind it. -/
def GoO (ops : List (Option Tmp)) (D : Drw) (o : Oper) (l : List Oper) (k : Stk) (T : Nat → Tr) (H : Heap) : Prop := opX P Θ nt base o D (fun D' s => wpX P Θ nt base ops l D' (fun s => stkK P Θ nt base k .normal s) s) { T := T, H := H }
/-- Behind a call: its result goes to the slot. -/
def GoA (ops : List (Option Tmp)) (dst : Option Tmp) (l : List Oper) (k : Stk) (T : Nat → Tr) (D : Drw) (r : Tr) (H : Heap) : Prop := GoR P Θ nt base ops D l k (putT T dst r) H

end

section
variable {P : Program} {Θ : Tab} {nt base : Nat} {k : Stk} {T : Nat → Tr} {H : Heap} {ops : List (Option Tmp)} {l : List Oper} {dst : Option Tmp} {ty : TypeId} {pos : String} {after : Array Edge} {D : Drw}

theorem goC_skip : GoC P Θ nt base .skip k T H = GoE P Θ nt base .normal k T H := rfl
theorem goC_label {i : Nat} : GoC P Θ nt base (.label i) k T H = GoE P Θ nt base .normal k T H := rfl
theorem goC_ret : GoC P Θ nt base .ret k T H = GoE P Θ nt base .ret k T H := rfl
theorem goC_exit {i : Nat} : GoC P Θ nt base (.exit i) k T H = GoE P Θ nt base (.exit i) k T H := rfl
theorem goC_seq {a b : Code} : GoC P Θ nt base (.seq a b) k T H = GoC P Θ nt base a (.code b k) T H := rfl
theorem goC_block {i : Nat} {c : Code} : GoC P Θ nt base (.block i c) k T H = GoC P Θ nt base c (.blk i k) T H := rfl
theorem goC_scope {c : Code} : GoC P Θ nt base (.scope c) k T H = GoC P Θ nt base c (.scp k) T H := rfl
theorem goC_region {i : Nat} {as : List Oper} : GoC P Θ nt base (.region i as.toArray false) k T H = GoR P Θ nt base (as.map (·.dst)) none as k T H := rfl
theorem goC_draw {i : Nat} {as : List Oper} : GoC P Θ nt base (.region i as.toArray true) k T H = GoR P Θ nt base (as.map (·.dst)) (some (as.toArray, [])) as k T H := rfl
theorem goC_loop {c : Code} : GoC P Θ nt base (.loop c) k T H = WP P nt (.loop c) (stkK P Θ nt base k) { T := T, H := H } := rfl
theorem upd_same_eq {α : Type} (f : Nat → α) (d : Nat) {x : α} (h : f d = x) : upd f d x = f := by
  funext t
  simp only [upd]
  split
  · rename_i e; rw [e, h]
  · rfl
/-- A slot that was looked at: what it holds, told once. -/
def updG (T : Nat → Tr) (d : Nat) (x : Tr) : Nat → Tr := upd T d x
theorem updG_same {T : Nat → Tr} {d : Nat} {x : Tr} (h : T d = x) : updG T d x = T := upd_same_eq _ _ h
theorem updG_def {T : Nat → Tr} {d : Nat} {x : Tr} : updG T d x = upd T d x := rfl
/-- What is known of a slot once it was looked at. -/
def seen (T : Nat → Tr) (c : Operand) (b : Bool) : Nat → Tr :=
  match c with
  | .tmp t => updG T t (.bool b)
  | _ => T
theorem seen_tmp {t : Tmp} {b : Bool} : seen T (.tmp t) b = updG T t (.bool b) := rfl
theorem seen_eq {c : Operand} {b : Bool} (h : rdOp T c = .bool b) : seen T c b = T := by
  cases c with
  | tmp t =>
    funext j
    simp only [seen, updG, upd]
    split
    · rename_i e; rw [e]; exact h.symm
    · rfl
  | _ => rfl
def cndGo (P : Program) (Θ : Tab) (nt base : Nat) (v : Tr) (c : Operand) (x y : Code) (k : Stk) (T : Nat → Tr) (H : Heap) : Prop :=
  match v with
  | .bool b => (b = true → GoC P Θ nt base x k (seen T c true) H) ∧ (b = false → GoC P Θ nt base y k (seen T c false) H)
  | _ => False
theorem goC_cond {c : Operand} {x y : Code} : GoC P Θ nt base (.cond c x y) k T H = cndGo P Θ nt base (rdOp T c) c x y k T H := by
  unfold cndGo
  show wpcX P Θ nt base (.cond c x y) _ _ = _
  simp only [wpcX]
  split
  · rename_i b hb
    cases b
    · simp only [Bool.false_eq_true, false_imp_iff, true_and, forall_const]
      rw [seen_eq hb]; rfl
    · simp only [Bool.true_eq_false, false_imp_iff, and_true, forall_const]
      rw [seen_eq hb]; rfl
  · rfl
theorem cndGo_bool {b : Bool} {c : Operand} {x y : Code} : cndGo P Θ nt base (.bool b) c x y k T H = ((b = true → GoC P Θ nt base x k (seen T c true) H) ∧ (b = false → GoC P Θ nt base y k (seen T c false) H)) := rfl
theorem cndGo_true {c : Operand} {x y : Code} : cndGo P Θ nt base (.bool true) c x y k T H = GoC P Θ nt base x k (seen T c true) H := by
  simp only [cndGo, forall_const, reduceCtorEq, false_imp_iff, and_true]
theorem cndGo_false {c : Operand} {x y : Code} : cndGo P Θ nt base (.bool false) c x y k T H = GoC P Θ nt base y k (seen T c false) H := by
  simp only [cndGo, forall_const, reduceCtorEq, false_imp_iff, true_and]

theorem goE_normal_code {c : Code} : GoE P Θ nt base .normal (.code c k) T H = GoC P Θ nt base c k T H := rfl
theorem goE_exit_code {c : Code} {i : Nat} : GoE P Θ nt base (.exit i) (.code c k) T H = GoE P Θ nt base (.exit i) k T H := rfl
theorem goE_ret_code {c : Code} : GoE P Θ nt base .ret (.code c k) T H = GoE P Θ nt base .ret k T H := rfl
theorem goE_normal_blk {i : Nat} : GoE P Θ nt base .normal (.blk i k) T H = GoE P Θ nt base .normal k T H := rfl
theorem goE_ret_blk {i : Nat} : GoE P Θ nt base .ret (.blk i k) T H = GoE P Θ nt base .ret k T H := rfl
theorem goE_exit_blk {i j : Nat} : GoE P Θ nt base (.exit i) (.blk j k) T H = if i = j then GoE P Θ nt base .normal k T H else GoE P Θ nt base (.exit i) k T H := rfl
theorem goE_normal_scp : GoE P Θ nt base .normal (.scp k) T H = GoE P Θ nt base .normal k T H := rfl
theorem goE_ret_scp : GoE P Θ nt base .ret (.scp k) T H = GoE P Θ nt base .ret k T H := rfl
theorem goE_exit_scp {i : Nat} : GoE P Θ nt base (.exit i) (.scp k) T H = GoE P Θ nt base (.exit i) k T H := rfl
theorem goE_normal_cut {J : (Nat → Tr) → Heap → Prop} : GoE P Θ nt base .normal (.cut J k) T H = J T H := rfl
theorem goE_exit_cut {J : (Nat → Tr) → Heap → Prop} {i : Nat} : GoE P Θ nt base (.exit i) (.cut J k) T H = GoE P Θ nt base (.exit i) k T H := rfl
theorem goE_ret_cut {J : (Nat → Tr) → Heap → Prop} : GoE P Θ nt base .ret (.cut J k) T H = GoE P Θ nt base .ret k T H := rfl
theorem goE_nil {e : Exit} {K : Exit → St → Prop} : GoE P Θ nt base e (.nil K) T H = K e { T := T, H := H } := rfl

theorem nxtD_none {rl : List Nat} {wl : Option Nat} : nxtD none rl wl = none := rfl
theorem nxtD_some {rl : List Nat} {wl : Option Nat} {ops : Array Oper} {acc : List (List Nat × Option Nat)} : nxtD (some (ops, acc)) rl wl = some (ops, (rl, wl) :: acc) := rfl
theorem goR_nil : GoR P Θ nt base ops none [] k T H = GoE P Θ nt base .normal k T H := rfl
theorem goR_nilD {os : Array Oper} {acc : List (List Nat × Option Nat)} : GoR P Θ nt base ops (some (os, acc)) [] k T H = (compatB os acc.reverse = true ∧ GoE P Θ nt base .normal k T H) := rfl
theorem goR_cons {op : Op} : GoR P Θ nt base ops D (⟨dst, op, ty, pos, after, none⟩ :: l) k T H = GoO P Θ nt base ops D ⟨dst, op, ty, pos, after, none⟩ l k T H := by
  cases D <;> rfl
theorem goR_guard0 {op : Op} {j : Nat} {want c : Bool} {d : Tmp} (hd : ops[j]? = some (some d)) (h : T d = .bool c) : GoR P Θ nt base ops D (⟨dst, op, ty, pos, after, some (j, want)⟩ :: l) k T H =
    ((c = want → GoO P Θ nt base ops D ⟨dst, op, ty, pos, after, some (j, want)⟩ l k (upd T d (.bool want)) H) ∧ (c = !want → dstOK nt dst = true ∧ GoR P Θ nt base ops (nxtD D [] none) l k (putT (upd T d (.bool (!want))) dst (.tup [])) H)) := by
  have hg : guardT ops T j = .bool c := by unfold guardT; rw [hd]; exact h
  have e : GoR P Θ nt base ops D (⟨dst, op, ty, pos, after, some (j, want)⟩ :: l) k T H =
    ((c = want → GoO P Θ nt base ops D ⟨dst, op, ty, pos, after, some (j, want)⟩ l k T H) ∧ (c = !want → dstOK nt dst = true ∧ GoR P Θ nt base ops (nxtD D [] none) l k (putT T dst (.tup [])) H)) := by
    show wpX P Θ nt base ops _ _ _ _ = _
    cases D <;> simp only [wpX, hg] <;> rfl
  rw [e]
  refine propext ⟨fun hh => ⟨fun hc => ?_, fun hc => ?_⟩, fun hh => ⟨fun hc => ?_, fun hc => ?_⟩⟩
  · rw [upd_same_eq _ _ (by rw [h, hc])]; exact hh.1 hc
  · rw [upd_same_eq _ _ (by rw [h, hc])]; exact hh.2 hc
  · have := hh.1 hc; rwa [upd_same_eq _ _ (by rw [h, hc])] at this
  · have := hh.2 hc; rwa [upd_same_eq _ _ (by rw [h, hc])] at this

def gdGo (P : Program) (Θ : Tab) (nt base : Nat) (ops : List (Option Tmp)) (D : Drw) (want : Bool) (o : Oper) (l : List Oper) (k : Stk) (T : Nat → Tr) (H : Heap) (d : Option (Option Tmp)) (v : Tr) : Prop :=
  match d, v with
  | some (some _), .tup [] => dstOK nt o.dst = true ∧ GoR P Θ nt base ops (nxtD D [] none) l k (putT T o.dst (.tup [])) H
  | some (some d), .bool c => (c = want → GoO P Θ nt base ops D o l k (updG T d (.bool want)) H) ∧ (c = !want → dstOK nt o.dst = true ∧ GoR P Θ nt base ops (nxtD D [] none) l k (putT (updG T d (.bool (!want))) o.dst (.tup [])) H)
  | _, _ => False
def gdVal (T : Nat → Tr) (d : Option (Option Tmp)) : Tr :=
  match d with
  | some (some d) => T d
  | _ => .any
theorem gdVal_some {d : Tmp} : gdVal T (some (some d)) = T d := rfl
theorem goR_guard {op : Op} {j : Nat} {want : Bool} : GoR P Θ nt base ops D (⟨dst, op, ty, pos, after, some (j, want)⟩ :: l) k T H =
    gdGo P Θ nt base ops D want ⟨dst, op, ty, pos, after, some (j, want)⟩ l k T H (ops[j]?) (gdVal T (ops[j]?)) := by
  unfold gdGo
  split
  · rename_i d h1 h2
    rw [h1] at h2
    have hg : guardT ops T j = .tup [] := by unfold guardT; rw [h1]; exact h2
    show wpX P Θ nt base ops _ _ _ _ = _
    cases D <;> simp only [wpX, hg] <;> rfl
  · rename_i d c h1 h2
    rw [h1] at h2
    exact goR_guard0 h1 h2
  · rename_i hno0 hno
    have hg : ∀ c, guardT ops T j ≠ .bool c := by
      intro c hc
      unfold guardT at hc
      split at hc
      · rename_i d hd
        refine hno d c hd ?_
        rw [hd]; exact hc
      · cases hc
    have hg0 : guardT ops T j ≠ .tup [] := by
      intro hc
      unfold guardT at hc
      split at hc
      · rename_i d hd
        refine hno0 d hd ?_
        rw [hd]; exact hc
      · cases hc
    show wpX P Θ nt base ops _ _ _ _ = _
    cases D <;> simp only [wpX] <;> split <;> first | rfl | (rename_i c hc; exact absurd hc (hg c)) | (rename_i hc; exact absurd hc hg0)
theorem gdGo_skip {want : Bool} {op : Op} {gd : Option (Nat × Bool)} {d : Tmp} : gdGo P Θ nt base ops D want ⟨dst, op, ty, pos, after, gd⟩ l k T H (some (some d)) (.tup []) =
    (dstOK nt dst = true ∧ GoR P Θ nt base ops (nxtD D [] none) l k (putT T dst (.tup [])) H) := rfl
theorem gdGo_bool {want c : Bool} {op : Op} {gd : Option (Nat × Bool)} {d : Tmp} : gdGo P Θ nt base ops D want ⟨dst, op, ty, pos, after, gd⟩ l k T H (some (some d)) (.bool c) =
    ((c = want → GoO P Θ nt base ops D ⟨dst, op, ty, pos, after, gd⟩ l k (updG T d (.bool want)) H) ∧ (c = !want → dstOK nt dst = true ∧ GoR P Θ nt base ops (nxtD D [] none) l k (putT (updG T d (.bool (!want))) dst (.tup [])) H)) := rfl

variable {g : Option (Nat × Bool)}
theorem goO_of {op : Op} {f : Eff} (hn : ∀ c, op = .call c → ∃ b, c.callee = .builtin b) (h : aOp Θ H (lab base dst) (rdOp T) op = some f) :
    GoO P Θ nt base ops D ⟨dst, op, ty, pos, after, g⟩ l k T H = (dstOK nt dst = true ∧ GoR P Θ nt base ops (nxtD D (foot (lab base dst) (rdOp T) op) (f.hu.map (·.1))) l k (putT T dst f.val) (f.heap H)) := by
  show opX P Θ nt base _ _ _ _ = _
  unfold opX
  split
  · rename_i x args tys hop
    obtain ⟨b, hb⟩ := hn _ hop
    cases hb
  · simp only [h]
    rfl

theorem gdGo_tt {op : Op} {gd : Option (Nat × Bool)} {d : Tmp} : gdGo P Θ nt base ops D true ⟨dst, op, ty, pos, after, gd⟩ l k T H (some (some d)) (.bool true) = GoO P Θ nt base ops D ⟨dst, op, ty, pos, after, gd⟩ l k (updG T d (.bool true)) H := by
  simp only [gdGo, forall_const, reduceCtorEq, false_imp_iff, and_true, Bool.not_true]
theorem gdGo_ff {op : Op} {gd : Option (Nat × Bool)} {d : Tmp} : gdGo P Θ nt base ops D false ⟨dst, op, ty, pos, after, gd⟩ l k T H (some (some d)) (.bool false) = GoO P Θ nt base ops D ⟨dst, op, ty, pos, after, gd⟩ l k (updG T d (.bool false)) H := by
  simp only [gdGo, forall_const, reduceCtorEq, false_imp_iff, and_true, Bool.not_false]
theorem gdGo_tf {op : Op} {gd : Option (Nat × Bool)} {d : Tmp} : gdGo P Θ nt base ops D true ⟨dst, op, ty, pos, after, gd⟩ l k T H (some (some d)) (.bool false) = (dstOK nt dst = true ∧ GoR P Θ nt base ops (nxtD D [] none) l k (putT (updG T d (.bool false)) dst (.tup [])) H) := by
  simp only [gdGo, forall_const, reduceCtorEq, false_imp_iff, true_and, Bool.not_true]
theorem gdGo_ft {op : Op} {gd : Option (Nat × Bool)} {d : Tmp} : gdGo P Θ nt base ops D false ⟨dst, op, ty, pos, after, gd⟩ l k T H (some (some d)) (.bool true) = (dstOK nt dst = true ∧ GoR P Θ nt base ops (nxtD D [] none) l k (putT (updG T d (.bool true)) dst (.tup [])) H) := by
  simp only [gdGo, forall_const, reduceCtorEq, false_imp_iff, true_and, Bool.not_false]

def optGo (P : Program) (Θ : Tab) (nt base : Nat) (ops : List (Option Tmp)) (D : Drw) (rl : List Nat) (dst : Option Tmp) (l : List Oper) (k : Stk) (T : Nat → Tr) (H : Heap) (v : Option Tr) : Prop :=
  match v with
  | some v => dstOK nt dst = true ∧ GoR P Θ nt base ops (nxtD D rl none) l k (putT T dst v) H
  | none => False
def effGo (P : Program) (Θ : Tab) (nt base : Nat) (ops : List (Option Tmp)) (D : Drw) (rl : List Nat) (dst : Option Tmp) (l : List Oper) (k : Stk) (T : Nat → Tr) (H : Heap) (v : Option Eff) : Prop :=
  match v with
  | some f => dstOK nt dst = true ∧ GoR P Θ nt base ops (nxtD D rl (f.hu.map (·.1))) l k (putT T dst f.val) (f.heap H)
  | none => False
variable {rl : List Nat}
theorem optGo_some {v : Tr} : optGo P Θ nt base ops D rl dst l k T H (some v) = (dstOK nt dst = true ∧ GoR P Θ nt base ops (nxtD D rl none) l k (putT T dst v) H) := rfl
theorem effGo_some {v : Tr} {d g : Nat} {o : AObj} : effGo P Θ nt base ops D rl dst l k T H (some ⟨v, some (d, g, o)⟩) = (dstOK nt dst = true ∧ GoR P Θ nt base ops (nxtD D rl (some d)) l k (putT T dst v) (upd H d (g, o))) := rfl
theorem effGo_none {v : Tr} : effGo P Θ nt base ops D rl dst l k T H (some ⟨v, none⟩) = (dstOK nt dst = true ∧ GoR P Θ nt base ops (nxtD D rl none) l k (putT T dst v) H) := rfl

theorem goO_eff {op : Op} {v : Option Eff} (hn : ∀ c, op = .call c → ∃ b, c.callee = .builtin b) (h : aOp Θ H (lab base dst) (rdOp T) op = v) (hf : foot (lab base dst) (rdOp T) op = rl) :
    GoO P Θ nt base ops D ⟨dst, op, ty, pos, after, g⟩ l k T H = effGo P Θ nt base ops D rl dst l k T H v := by
  subst hf
  cases v with
  | some f => rw [goO_of hn h]; rfl
  | none =>
    show opX P Θ nt base _ _ _ _ = _
    unfold opX
    split
    · rename_i x args tys hop
      obtain ⟨b, hb⟩ := hn _ hop
      cases hb
    · simp only [h]
      rfl
theorem goO_opt {op : Op} {v : Option Tr} (hn : ∀ c, op = .call c → ∃ b, c.callee = .builtin b) (h : aOp Θ H (lab base dst) (rdOp T) op = v.map fun x => ⟨x, none⟩) (hf : foot (lab base dst) (rdOp T) op = rl) :
    GoO P Θ nt base ops D ⟨dst, op, ty, pos, after, g⟩ l k T H = optGo P Θ nt base ops D rl dst l k T H v := by
  rw [goO_eff hn h hf]
  cases v <;> rfl

theorem goO_move {x : Operand} : GoO P Θ nt base ops D ⟨dst, .move x, ty, pos, after, g⟩ l k T H = (dstOK nt dst = true ∧ GoR P Θ nt base ops (nxtD D [] none) l k (putT T dst (rdOp T x)) H) := by
  refine (goO_of (f := ⟨rdOp T x, none⟩) ?_ ?_).trans rfl
  · intro c h; cases h
  rfl
theorem goO_assign {x : Operand} : GoO P Θ nt base ops D ⟨dst, .assign x, ty, pos, after, g⟩ l k T H = (dstOK nt dst = true ∧ GoR P Θ nt base ops (nxtD D [] none) l k (putT T dst (rdOp T x)) H) := by
  refine (goO_of (f := ⟨rdOp T x, none⟩) ?_ ?_).trans rfl
  · intro c h; cases h
  rfl
def aPick (c x y : Tr) : Option Tr :=
  match c with
  | .bool b => some (if b = true then x else y)
  | _ => none
theorem goO_pick {c x y : Operand} : GoO P Θ nt base ops D ⟨dst, .pick c x y, ty, pos, after, g⟩ l k T H = optGo P Θ nt base ops D [] dst l k T H (aPick (rdOp T c) (rdOp T x) (rdOp T y)) := goO_opt (fun _ h => nomatch h) (by simp only [aOp]; cases rdOp T c <;> rfl) rfl
theorem goO_alloc {t : TypeId} : GoO P Θ nt base ops D ⟨dst, .alloc t, ty, pos, after, g⟩ l k T H = effGo P Θ nt base ops D [lab base dst] dst l k T H (aOp Θ H (lab base dst) (rdOp T) (.alloc t)) := goO_eff (fun _ h => nomatch h) rfl rfl
theorem goO_box {t : TypeId} {x : Operand} : GoO P Θ nt base ops D ⟨dst, .box t x, ty, pos, after, g⟩ l k T H = effGo P Θ nt base ops D [lab base dst] dst l k T H (aOp Θ H (lab base dst) (rdOp T) (.box t x)) := goO_eff (fun _ h => nomatch h) rfl rfl
def aBuildT (Θ : Tab) (t : TypeId) (ps : List (Nat × Tr)) : Option Tr :=
  match Θ t with
  | some i => if i.zero.good = true then aBuild Θ i ps else none
  | none => none
theorem goO_build {t : TypeId} {ps : Array (Nat × Operand)} : GoO P Θ nt base ops D ⟨dst, .build t ps, ty, pos, after, g⟩ l k T H = optGo P Θ nt base ops D [] dst l k T H (aBuildT Θ t (ps.toList.map fun p => (p.1, rdOp T p.2))) := goO_opt (fun _ h => nomatch h) (by
  simp only [aOp, aBuildT]
  cases Θ t with
  | none => rfl
  | some i => dsimp only; split <;> rfl) rfl
theorem goO_buildSlice {t : TypeId} {n : Nat} {ps : Array (Nat × Operand)} : GoO P Θ nt base ops D ⟨dst, .buildSlice t n ps, ty, pos, after, g⟩ l k T H =
    effGo P Θ nt base ops D [lab base dst] dst l k T H (aOp Θ H (lab base dst) (rdOp T) (.buildSlice t n ps)) := goO_eff (fun _ h => nomatch h) rfl rfl
theorem goO_load {t : TypeId} {x : Operand} : GoO P Θ nt base ops D ⟨dst, .load t x, ty, pos, after, g⟩ l k T H = optGo P Θ nt base ops D (lb (rdOp T x)) dst l k T H (aLoad Θ H t (rdOp T x)) := goO_opt (fun _ h => nomatch h) rfl rfl
theorem goO_store {t : TypeId} {x v : Operand} : GoO P Θ nt base ops D ⟨dst, .store t x v, ty, pos, after, g⟩ l k T H = effGo P Θ nt base ops D (lb (rdOp T x)) dst l k T H (aStore Θ H t (rdOp T x) (rdOp T v)) := goO_eff (fun _ h => nomatch h) rfl rfl
theorem goO_nilCheck {x : Operand} : GoO P Θ nt base ops D ⟨dst, .nilCheck x, ty, pos, after, g⟩ l k T H = effGo P Θ nt base ops D (lb (rdOp T x)) dst l k T H (aOp Θ H (lab base dst) (rdOp T) (.nilCheck x)) := goO_eff (fun _ h => nomatch h) rfl rfl
theorem goO_bin {op : BinOp} {t t' : TypeId} {x y : Operand} : GoO P Θ nt base ops D ⟨dst, .binOp op t x y t', ty, pos, after, g⟩ l k T H = optGo P Θ nt base ops D [] dst l k T H (aBin Θ op t (rdOp T x) (rdOp T y)) := goO_opt (fun _ h => nomatch h) rfl rfl
theorem goO_un {op : UnOp} {t : TypeId} {x : Operand} : GoO P Θ nt base ops D ⟨dst, .unOp op t x, ty, pos, after, g⟩ l k T H = optGo P Θ nt base ops D [] dst l k T H (aUn op (rdOp T x)) := goO_opt (fun _ h => nomatch h) rfl rfl
def aConvT (Θ : Tab) (s t : TypeId) (x : Tr) : Option Tr :=
  match Θ s with
  | some _ => aConv Θ s t x
  | none => none
theorem goO_convert {s t : TypeId} {x : Operand} : GoO P Θ nt base ops D ⟨dst, .convert s t x, ty, pos, after, g⟩ l k T H = optGo P Θ nt base ops D [] dst l k T H (aConvT Θ s t (rdOp T x)) := goO_opt (fun _ h => nomatch h) (by
  simp only [aOp, aConvT]
  cases Θ s <;> rfl) rfl
theorem goO_makeFunc {f : FuncId} {caps : Array Operand} : GoO P Θ nt base ops D ⟨dst, .makeFunc (.func f) #[] caps, ty, pos, after, g⟩ l k T H = (dstOK nt dst = true ∧ GoR P Θ nt base ops (nxtD D [] none) l k (putT T dst (.clo f (caps.toList.map (rdOp T)))) H) := by
  refine (goO_of (f := ⟨.clo f (caps.toList.map (rdOp T)), none⟩) ?_ ?_).trans rfl
  · intro c h; cases h
  simp [aOp]
theorem goO_makeSlice {t : TypeId} {x y : Operand} : GoO P Θ nt base ops D ⟨dst, .makeSlice t x y, ty, pos, after, g⟩ l k T H = effGo P Θ nt base ops D [lab base dst] dst l k T H (aMakeSlice Θ H (lab base dst) t (rdOp T x) (rdOp T y)) := goO_eff (fun _ h => nomatch h) rfl rfl
theorem goO_slice {t : TypeId} {x : Operand} {lo hi : Option Operand} : GoO P Θ nt base ops D ⟨dst, .slice t x lo hi none, ty, pos, after, g⟩ l k T H = optGo P Θ nt base ops D (lb (rdOp T x)) dst l k T H (aSlice Θ H t (rdOp T x) (lo.map (rdOp T)) (hi.map (rdOp T))) := goO_opt (fun _ h => nomatch h) rfl rfl
theorem goO_fieldAddr {t : TypeId} {x : Operand} {f : Nat} : GoO P Θ nt base ops D ⟨dst, .fieldAddr t x f, ty, pos, after, g⟩ l k T H = optGo P Θ nt base ops D (lb (rdOp T x)) dst l k T H (aFieldAddr Θ H t (rdOp T x) f) := goO_opt (fun _ h => nomatch h) rfl rfl
theorem goO_field {t : TypeId} {x : Operand} {f : Nat} : GoO P Θ nt base ops D ⟨dst, .field t x f, ty, pos, after, g⟩ l k T H = optGo P Θ nt base ops D [] dst l k T H (aField Θ t (rdOp T x) f) := goO_opt (fun _ h => nomatch h) rfl rfl
theorem goO_indexAddr {t : TypeId} {x i : Operand} : GoO P Θ nt base ops D ⟨dst, .indexAddr t x i, ty, pos, after, g⟩ l k T H = optGo P Θ nt base ops D (lb (rdOp T x)) dst l k T H (aIndexAddr Θ H t (rdOp T x) (rdOp T i)) := goO_opt (fun _ h => nomatch h) rfl rfl
theorem goO_index {t : TypeId} {x i : Operand} : GoO P Θ nt base ops D ⟨dst, .index t x i, ty, pos, after, g⟩ l k T H = optGo P Θ nt base ops D [] dst l k T H (aIndex Θ t (rdOp T x) (rdOp T i)) := goO_opt (fun _ h => nomatch h) rfl rfl
def aExt (x : Tr) (i : Nat) : Option Tr :=
  match x with
  | .tup xs => xs[i]?
  | _ => none
theorem goO_extract {x : Operand} {i : Nat} : GoO P Θ nt base ops D ⟨dst, .extract x i, ty, pos, after, g⟩ l k T H = optGo P Θ nt base ops D [] dst l k T H (aExt (rdOp T x) i) := goO_opt (fun _ h => nomatch h) (by
  simp only [aOp]
  cases rdOp T x <;> rfl) rfl
theorem goO_builtin {b : Builtin} {args : Array Operand} {tys : Array TypeId} : GoO P Θ nt base ops D ⟨dst, .call ⟨.builtin b, args, tys⟩, ty, pos, after, g⟩ l k T H =
    effGo P Θ nt base ops D (lab base dst :: args.toList.flatMap fun x => lb (rdOp T x)) dst l k T H (aBuiltin Θ H (lab base dst) b tys.toList (args.toList.map (rdOp T))) := goO_eff (fun c h => by cases h; exact ⟨b, rfl⟩) rfl rfl
def clGo (P : Program) (Θ : Tab) (nt base : Nat) (ops : List (Option Tmp)) (D : Drw) (dst : Option Tmp) (args : List Tr) (l : List Oper) (k : Stk) (T : Nat → Tr) (H : Heap) (v : Tr) : Prop :=
  match v with
  | .clo f caps => dstOK nt dst = true ∧ callX P D f (args ++ caps) H (GoA P Θ nt base ops dst l k T)
  | _ => False
theorem goO_call {x : Operand} {args : Array Operand} {tys : Array TypeId} : GoO P Θ nt base ops D ⟨dst, .call ⟨.value x, args, tys⟩, ty, pos, after, g⟩ l k T H = clGo P Θ nt base ops D dst (args.toList.map (rdOp T)) l k T H (rdOp T x) := by
  show opX P Θ nt base _ _ _ _ = _
  simp only [opX, clGo]
  rfl
theorem clGo_clo {f : FuncId} {args caps : List Tr} : clGo P Θ nt base ops D dst args l k T H (.clo f caps) = (dstOK nt dst = true ∧ callX P D f (args ++ caps) H (GoA P Θ nt base ops dst l k T)) := rfl

/-- A call's contract is used. -/
theorem callX_use {f : FuncId} {args : List Tr} {R : Tr → Heap → Prop} (h : CallSem P f args H R) (hn : ∀ r H', R r H' → GoR P Θ nt base ops none l k (putT T dst r) H') :
    callX P none f args H (GoA P Θ nt base ops dst l k T) := h.mono fun r H' hr => hn r H' hr

/-- A call that turns nothing and whose result is told, wherever it stands. -/
theorem callX_val {f : FuncId} {args : List Tr} {v : Tr} (rl : List Nat) (h : ∀ H', (∀ d ∈ rl, H' d = H d) → CallSem P f args H' fun r H'' => r = v ∧ H'' = H') (hn : GoR P Θ nt base ops (nxtD D rl none) l k (putT T dst v) H) :
    callX P D f args H (GoA P Θ nt base ops dst l k T) := by
  cases D with
  | none =>
    refine (h H fun _ _ => rfl).mono ?_
    rintro r H' ⟨rfl, rfl⟩
    exact hn
  | some p =>
    obtain ⟨os, acc⟩ := p
    exact ⟨rl, ⟨v, none⟩, h, hn⟩

/-- A contract that tells the result of arguments that lead to no memory of the caller's own. -/
theorem callX_pure {f : FuncId} {args : List Tr} {v : Tr} (h : ACall P f args fun r _ => r = v) (hlf : lfL args = true) (hv : v.lf = true) (hn : GoR P Θ nt base ops (nxtD D [] none) l k (putT T dst v) H) :
    callX P D f args H (GoA P Θ nt base ops dst l k T) := by
  refine callX_val [] (fun H' _ => ?_) hn
  have hfr : ∀ H0 : Heap, args = args.map (frz H0 fun _ => false) := fun H0 => by
    conv => lhs; rw [← List.map_id args]
    exact List.map_congr_left fun x hx => (frz_lf H0 _ x ((lfL_iff _).1 hlf x hx)).symm
  refine (CallSem.pure (fun _ => false) (R' := fun r => r = v) h (hfr H') hlf fun r H1 hr => ?_).mono fun r H1 hr => ⟨hr.1, by rw [hr.2, kill_none]⟩
  subst hr
  rw [frz_lf _ _ _ hv]
  exact ⟨hv, rfl⟩

@[congr] theorem goC_congr {c : Code} {T' : Nat → Tr} {H' : Heap} (h : T = T') (h' : H = H') : GoC P Θ nt base c k T H = GoC P Θ nt base c k T' H' := by rw [h, h']
@[congr] theorem goE_congr {e : Exit} {T' : Nat → Tr} {H' : Heap} (h : T = T') (h' : H = H') : GoE P Θ nt base e k T H = GoE P Θ nt base e k T' H' := by rw [h, h']
@[congr] theorem goR_congr {D' : Drw} {T' : Nat → Tr} {H' : Heap} (hd : D = D') (h : T = T') (h' : H = H') : GoR P Θ nt base ops D l k T H = GoR P Θ nt base ops D' l k T' H' := by rw [hd, h, h']
@[congr] theorem goO_congr {o : Oper} {D' : Drw} {T' : Nat → Tr} {H' : Heap} (hd : D = D') (h : T = T') (h' : H = H') : GoO P Θ nt base ops D o l k T H = GoO P Θ nt base ops D' o l k T' H' := by rw [hd, h, h']
@[congr] theorem cndGo_congr {v v' : Tr} {c : Operand} {x y : Code} (h : v = v') : cndGo P Θ nt base v c x y k T H = cndGo P Θ nt base v' c x y k T H := by rw [h]
@[congr] theorem gdGo_congr {want : Bool} {o : Oper} {d d' : Option (Option Tmp)} {v v' : Tr} (hd : d = d') (h : v = v') : gdGo P Θ nt base ops D want o l k T H d v = gdGo P Θ nt base ops D want o l k T H d' v' := by rw [hd, h]
@[congr] theorem clGo_congr {args args' : List Tr} {v v' : Tr} (ha : args = args') (h : v = v') : clGo P Θ nt base ops D dst args l k T H v = clGo P Θ nt base ops D dst args' l k T H v' := by rw [ha, h]
@[congr] theorem optGo_congr {v v' : Option Tr} (h : v = v') : optGo P Θ nt base ops D rl dst l k T H v = optGo P Θ nt base ops D rl dst l k T H v' := by rw [h]
@[congr] theorem effGo_congr {v v' : Option Eff} (h : v = v') : effGo P Θ nt base ops D rl dst l k T H v = effGo P Θ nt base ops D rl dst l k T H v' := by rw [h]

theorem putT_some {d : Tmp} {x : Tr} : putT T (some d) x = upd T d x := rfl
theorem putT_none {x : Tr} : putT T none x = T := rfl
theorem rd_tmp {t : Tmp} : rdOp T (.tmp t) = T t := rfl
theorem rd_func {f : FuncId} : rdOp T (.func f) = .clo f [] := rfl
theorem rd_int {kd : IntKind} {n : Int} : rdOp T (.const (.int kd n)) = .int kd n := rfl
theorem rd_bool {b : Bool} : rdOp T (.const (.bool b)) = .bool b := rfl
theorem rd_str {s : ByteArray} : rdOp T (.const (.string s)) = .str s := rfl
theorem rd_nils : rdOp T (.const (.slice none 0 0)) = .nils := rfl
theorem rd_nilp : rdOp T (.const (.pointer none)) = .nilp := rfl
theorem rd_nilf : rdOp T (.const .nilFunc) = .nilf := rfl
theorem upd_at {α : Type} (f : Nat → α) (a b : Nat) (x : α) : upd f a x b = if b = a then x else f b := rfl
theorem lab_some {d : Tmp} : lab base (some d) = base + d := rfl
theorem hemp_at (d : Nat) : hemp d = (0, .dead) := rfl
theorem argT_at (args : List Tr) (t : Nat) : argT args t = args.getD t .any := rfl
end

/-- The start of a walk. -/
theorem walk {P : Program} {Θ : Tab} {nt : Nat} {rs : List ResultVar} (hΘ : TabOK P Θ) (hm : P.follows .mixedOrders = true) {f : FuncId} {fn : Func} {c : Code} {args : List Tr} {H : Heap} {R : Tr → Heap → Prop} (hf : P.funcs[f]? = some fn) (hb : fn.body = some c)
    (hn : fn.ntmps = nt) (hr : fn.results.toList = rs) (hent : Enters P f) (hl : args.length ≤ nt) (base : Nat)
    (h : GoC P Θ nt base c (.nil (retK Θ rs R)) (argT args) H) : CallSem P f args H R := by
  subst hn
  subst hr
  exact CallSem.of_body hΘ hf hb hent hl (wpcX_sound hΘ hm c _ _ h)

/-- A loop. -/
theorem goLoop {P : Program} {Θ : Tab} {nt base : Nat} {k : Stk} {T : Nat → Tr} {H : Heap} {c : Code} (hΘ : TabOK P Θ) (hm : P.follows .mixedOrders = true) (I : Nat → (Nat → Tr) → Heap → Prop) (n₀ : Nat) (h₀ : I n₀ T H)
    (round : ∀ n T H, I n T H → GoC P Θ nt base c (.cut (fun T' H' => ∃ n', n' < n ∧ I n' T' H') k) T H) : GoC P Θ nt base (.loop c) k T H :=
  WP.loop (fun n s => I n s.T s.H) n₀ h₀ fun n s hI => wpcX_sound hΘ hm c _ _ (round n s.T s.H hI)

/-- So many rounds of a loop. -/
def rnd (P : Program) (Θ : Tab) (nt base : Nat) (c : Code) (k : Stk) : Nat → (Nat → Tr) → Heap → Prop
  | 0, _, _ => False
  | n + 1, T, H => GoC P Θ nt base c (.cut (rnd P Θ nt base c k n) k) T H
theorem rnd_succ {P : Program} {Θ : Tab} {nt base : Nat} {k : Stk} {T : Nat → Tr} {H : Heap} {c : Code} {n : Nat} : rnd P Θ nt base c k (n + 1) T H = GoC P Θ nt base c (.cut (rnd P Θ nt base c k n) k) T H := rfl
theorem goRounds {P : Program} {Θ : Tab} {nt base : Nat} {k : Stk} {T : Nat → Tr} {H : Heap} {c : Code} (hΘ : TabOK P Θ) (hm : P.follows .mixedOrders = true) (n : Nat) (h : rnd P Θ nt base c k n T H) : GoC P Θ nt base (.loop c) k T H := by
  show WP P nt (.loop c) _ _
  intro M0 M a g
  refine wp_loop_rounds n ?_
  have key : ∀ n T H (M : Mem) (a : Act), rnd P Θ nt base c k n T H → Gam M0 nt ⟨T, H⟩ M a → Code.rounds P c (fun e a' w' => ∃ s' M', M'.w = w' ∧ stkK P Θ nt base k e s' ∧ Gam M0 nt s' M' a') n a M.w := by
    intro n
    induction n with
    | zero => intro T H M a h _; exact h.elim
    | succ n ih =>
      intro T H M a h g
      rw [rounds_succ]
      refine wp_mono (wpcX_sound hΘ hm c _ _ h M0 M a g) ?_
      rintro e a' w' ⟨s', M', rfl, hk, g'⟩
      cases e with
      | normal => exact ih s'.T s'.H M' a' hk g'
      | exit id => exact ⟨s', M', rfl, hk, g'⟩
      | goto l => exact ⟨s', M', rfl, hk, g'⟩
      | ret => exact ⟨s', M', rfl, hk, g'⟩
      | panic ch => exact ⟨s', M', rfl, hk, g'⟩
      | outgrown => exact ⟨s', M', rfl, hk, g'⟩
  exact key n T H M a h g

theorem opX_mono {P : Program} {Θ : Tab} {nt base : Nat} {o : Oper} {D : Drw} {K K' : Drw → St → Prop} {s : St} (h : opX P Θ nt base o D K s) (hk : ∀ D s, K D s → K' D s) : opX P Θ nt base o D K' s := by
  unfold opX at *
  split at h
  · split at h
    · refine ⟨h.1, ?_⟩
      have h2 := h.2
      cases D with
      | none =>
        simp only [callX] at h2 ⊢
        exact h2.mono fun _ _ hr => hk _ _ hr
      | some p => obtain ⟨rl, e, h3, h4⟩ := h2; exact ⟨rl, e, h3, hk _ _ h4⟩
    · exact h.elim
  · split at h
    · exact ⟨h.1, hk _ _ h.2⟩
    · exact h.elim

theorem wpX_mono {P : Program} {Θ : Tab} {nt base : Nat} (ds : List (Option Tmp)) {K K' : St → Prop} (hk : ∀ s, K s → K' s) : ∀ (l : List Oper) (D : Drw) (s : St), wpX P Θ nt base ds l D K s → wpX P Θ nt base ds l D K' s
  | [], none, s, h => hk s h
  | [], some (ops, acc), s, h => ⟨h.1, hk s h.2⟩
  | o :: l, D, s, h => by
    unfold wpX at h ⊢
    split at h
    · exact opX_mono h fun D s hs => wpX_mono ds hk l D s hs
    · split at h
      · exact ⟨fun hc => opX_mono (h.1 hc) fun D s hs => wpX_mono ds hk l D s hs, fun hc => ⟨(h.2 hc).1, wpX_mono ds hk l _ _ (h.2 hc).2⟩⟩
      · exact ⟨h.1, wpX_mono ds hk l _ _ h.2⟩
      · exact h.elim

theorem wpcX_mono {P : Program} {Θ : Tab} {nt base : Nat} : ∀ (c : Code) {K K' : Exit → St → Prop} (_ : ∀ e s, K e s → K' e s) (s : St), wpcX P Θ nt base c K s → wpcX P Θ nt base c K' s
  | .skip, _, _, hk, s, h => hk _ _ h
  | .label _, _, _, hk, s, h => hk _ _ h
  | .ret, _, _, hk, s, h => hk _ _ h
  | .exit _, _, _, hk, s, h => hk _ _ h
  | .seq x y, K, K', hk, s, h => wpcX_mono x (fun e s h => by
      cases e with
      | normal => exact wpcX_mono y hk s h
      | _ => exact hk _ _ h) s h
  | .cond c x y, K, K', hk, s, h => by
    unfold wpcX at h ⊢
    split at h
    · exact ⟨fun hb => wpcX_mono x hk s (h.1 hb), fun hb => wpcX_mono y hk s (h.2 hb)⟩
    · exact h.elim
  | .block id c, K, K', hk, s, h => wpcX_mono c (fun e s h => by
      cases e with
      | exit id' =>
        simp only [inBlk] at h ⊢
        split at h
        · rename_i hid; rw [if_pos hid]; exact hk _ _ h
        · rename_i hid; rw [if_neg hid]; exact hk _ _ h
      | _ => exact hk _ _ h) s h
  | .scope c, K, K', hk, s, h => wpcX_mono c (fun e s h => by
      cases e with
      | goto _ => exact h
      | _ => exact hk _ _ h) s h
  | .region _ ops draw, K, K', hk, s, h => wpX_mono _ (fun s h => hk _ _ h) _ _ _ h
  | .loop c, K, K', hk, s, h => WP.mono h hk
  | .rangeFunc _ _ _ _, K, K', hk, s, h => WP.mono h hk
  | .goto _, _, _, _, _, h => h.elim
  | .refuse _, _, _, _, _, h => h.elim

/-- What is between two pieces of code. -/
theorem goCut {P : Program} {Θ : Tab} {nt base : Nat} {k : Stk} {T : Nat → Tr} {H : Heap} {a b : Code} (J : (Nat → Tr) → Heap → Prop) (h : GoC P Θ nt base a (.cut J k) T H) (hn : ∀ T H, J T H → GoC P Θ nt base b k T H) : GoC P Θ nt base (.seq a b) k T H :=
  wpcX_mono a (K := thenK (fun s => J s.T s.H) (stkK P Θ nt base k)) (K' := thenK (wpcX P Θ nt base b (stkK P Θ nt base k)) (stkK P Θ nt base k)) (fun e s h => by
    cases e with
    | normal => exact hn s.T s.H h
    | _ => exact h) _ h

/-- A condition that is worked out in a region, and what comes of it. -/
theorem goChain {P : Program} {Θ : Tab} {nt base : Nat} {k : Stk} {T : Nat → Tr} {H : Heap} {r x y : Code} {d : Tmp} (b : Bool) (L : (Nat → Tr) → Heap → Prop) (h : GoC P Θ nt base r (.cut (fun T' H' => T' d = .bool b ∧ L T' H') k) T H)
    (hx : b = true → ∀ T H, L T H → GoC P Θ nt base x k T H) (hy : b = false → ∀ T H, L T H → GoC P Θ nt base y k T H) : GoC P Θ nt base (.seq r (.cond (.tmp d) x y)) k T H := by
  refine goCut _ h ?_
  rintro T H ⟨hd, hL⟩
  rw [goC_cond]
  simp only [rd_tmp, hd, cndGo_bool, seen_tmp]
  exact ⟨fun hb => by rw [updG_same (by rw [hd, hb])]; exact hx hb T H hL, fun hb => by rw [updG_same (by rw [hd, hb])]; exact hy hb T H hL⟩

theorem goC_assoc {P : Program} {Θ : Tab} {nt base : Nat} {k : Stk} {T : Nat → Tr} {H : Heap} {a b c : Code} : GoC P Θ nt base (.seq a (.seq b c)) k T H = GoC P Θ nt base (.seq (.seq a b) c) k T H := by
  show wpcX P Θ nt base a _ _ = wpcX P Θ nt base a _ _
  congr 1
  funext e s
  cases e <;> rfl

theorem retK_ret {Θ : Tab} {rs : List ResultVar} {R : Tr → Heap → Prop} {s : St} : retK Θ rs R .ret s = ∃ xs, resL Θ s rs = some xs ∧ R (retOf xs) s.H := rfl
theorem retK_normal {Θ : Tab} {rs : List ResultVar} {R : Tr → Heap → Prop} {s : St} : retK Θ rs R .normal s = ∃ xs, resL Θ s rs = some xs ∧ R (retOf xs) s.H := rfl

attribute [go_sem ↓] nxtD_none
attribute [go_sem high] cndGo_true cndGo_false gdGo_tt gdGo_ff gdGo_tf gdGo_ft
theorem callX_id {P : Program} {D : Drw} {f : FuncId} {args : List Tr} {H : Heap} {R : Drw → Tr → Heap → Prop} (h : callX P D f args H R) : callX P D f args H R := h
theorem goLoop_id {P : Program} {Θ : Tab} {nt base : Nat} {k : Stk} {T : Nat → Tr} {H : Heap} {c : Code} (h : GoC P Θ nt base (.loop c) k T H) : GoC P Θ nt base (.loop c) k T H := h
theorem compat_of {ops : Array Oper} {fs : List (List Nat × Option Nat)} (h : compatB ops fs = true) : compatB ops fs = true := h

attribute [go_sem low] updG_def
attribute [go_sem] aEq eqT eqT.eqL eqDepth Bool.and_true Bool.and_self updG_same wrap64 Bool.not_eq_true' Bool.not_eq_false' Int.cast_ofNat_Int Int.natCast_add bne_eq_false_iff_eq List.length_map rnd_succ goE_normal_cut goE_exit_cut goE_ret_cut gdGo_skip seen_tmp false_imp_iff cndGo_bool gdGo_bool gdVal_some clGo_clo aPick aBuildT aConvT aExt beq_iff_eq beq_eq_false_iff_ne decide_eq_false_iff_not bne_iff_ne
attribute [go_sem] nxtD_some goR_nilD goC_draw lb List.flatMap_cons List.flatMap_nil goC_skip goC_label goC_ret goC_exit goC_seq goC_block goC_scope goC_region goC_cond goE_normal_code goE_exit_code goE_ret_code goE_normal_blk goE_ret_blk goE_exit_blk goE_normal_scp goE_ret_scp goE_exit_scp goE_nil goR_nil goR_cons goR_guard optGo_some effGo_some effGo_none goO_move goO_assign goO_pick goO_alloc goO_box goO_build goO_buildSlice goO_load goO_store goO_nilCheck goO_bin goO_un goO_convert goO_makeFunc goO_makeSlice goO_slice goO_fieldAddr goO_field goO_indexAddr goO_index goO_extract goO_builtin goO_call putT_some putT_none rd_tmp rd_func rd_int rd_bool rd_str rd_nils rd_nilp rd_nilf upd_at lab_some hemp_at argT_at dstOK guardT aLoad aAt aStore aPut aFieldAddr aField aIndexAddr aIndex aSlice aBound aLen aElems aAppend aCopy aMin aMax aBuiltin aMakeSlice aBin aInt aShift aUn aConv aBuild placeOf sizesOf setParts setElems aOp Tr.atF Tr.setF Tr.good Tr.isAgg TyK.isAgg size_node size_arr Tr.size retK_ret retK_normal resL resT retOf List.map_cons List.map_nil List.getD_cons_zero List.getD_cons_succ List.getElem?_cons_zero List.getElem?_cons_succ List.getElem?_nil List.set_cons_zero List.set_cons_succ List.append_nil List.nil_append List.cons_append List.length_cons List.length_nil List.toArray List.toList_toArray Option.map_some Option.map_none Nat.zero_add Nat.add_zero decide_eq_true_eq decide_true decide_false if_true if_false true_and and_true and_self Bool.false_eq_true Bool.true_eq_false eq_self forall_const Bool.not_true Bool.not_false Option.getD_some forall_eq forall_eq' Option.some.injEq exists_eq_left' exists_eq_left exists_eq List.replicate Nat.succ_ne_self ne_eq not_false_eq_true not_true_eq_false imp_self List.take List.drop Nat.lt_irrefl Nat.add_one_sub_one

end Go.Proofs.Ytnonimnhninafaa.Ab
