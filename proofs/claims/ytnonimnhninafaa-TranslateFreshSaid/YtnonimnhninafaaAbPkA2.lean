/- Regions whose order is drawn: the operations in their own order, if those that may change places do not meet. -/
import Derived.Test.YtnonimnhninafaaAbPkA1
import Derived.Orders
import Derived.LoopN
namespace Go.Proofs.Ytnonimnhninafaa.Ab
open Go
set_option linter.unusedVariables false
set_option linter.unusedSimpArgs false

/-- What an operation did: what it yields and what it turned; the labels it looked at, the one it turned. -/
structure Rc where
  f : Eff
  rl : List Nat

def Rc.wl (r : Rc) : Option Nat := r.f.hu.map (·.1)

def app (o : Oper) (r : Rc) (s : St) : St := { T := putT s.T o.dst r.f.val, H := r.f.heap s.H }

/-- May two operations change places? -/
def apartO (ops : Array Oper) (x y : Oper) (rx ry : List Nat × Option Nat) : Bool :=
  x.apart ops y &&
  (match rx.2 with
   | some d => !ry.1.contains d && ry.2 != some d
   | none => true) &&
  (match ry.2 with
   | some d => !rx.1.contains d
   | none => true)

def edgeTo (o : Oper) (i : Nat) : Bool := o.after.any fun e => Region.binds .any e && e.on == i

def backs (o : Oper) (k : Nat) : Bool := o.after.all fun e => !Region.binds .any e || decide (e.on < k)

/-- Against all earlier ones. -/
def compatO (ops : Array Oper) (y : Oper) (ry : List Nat × Option Nat) : Nat → List (Oper × List Nat × Option Nat) → Bool
  | _, [] => true
  | i, (x, rx) :: l => (edgeTo y i || apartO ops x y rx ry) && compatO ops y ry (i + 1) l

def compatL (ops : Array Oper) (pre : List (Oper × List Nat × Option Nat)) : Nat → List (Oper × List Nat × Option Nat) → Bool
  | _, [] => true
  | k, (y, ry) :: l => backs y k && compatO ops y ry 0 pre && compatL ops (pre ++ [(y, ry)]) (k + 1) l

def compatB (ops : Array Oper) (fs : List (List Nat × Option Nat)) : Bool := compatL ops [] 0 (ops.toList.zip fs)

section
variable {ops : Array Oper}

theorem compatO_get {y : Oper} {ry : List Nat × Option Nat} : ∀ (l : List (Oper × List Nat × Option Nat)) (i : Nat), compatO ops y ry i l = true → ∀ j x rx, l[j]? = some (x, rx) → edgeTo y (i + j) = true ∨ apartO ops x y rx ry = true
  | [], _, _, j, x, rx, h => by simp at h
  | (x, rx) :: l, i, h, 0, x', rx', h' => by
    simp only [List.getElem?_cons_zero, Option.some.injEq, Prod.mk.injEq] at h'
    obtain ⟨rfl, rfl⟩ := h'
    simp only [compatO, Bool.and_eq_true, Bool.or_eq_true] at h
    exact h.1
  | (x, rx) :: l, i, h, j + 1, x', rx', h' => by
    simp only [compatO, Bool.and_eq_true] at h
    have := compatO_get l (i + 1) h.2 j x' rx' (by simpa using h')
    rwa [show i + 1 + j = i + (j + 1) by omega] at this

theorem compatL_get : ∀ (l pre : List (Oper × List Nat × Option Nat)) (k : Nat), pre.length = k → compatL ops pre k l = true → ∀ j y ry, l[j]? = some (y, ry) →
    backs y (k + j) = true ∧ ∀ i x rx, i < k + j → (pre ++ l)[i]? = some (x, rx) → edgeTo y i = true ∨ apartO ops x y rx ry = true
  | [], _, _, _, _, j, y, ry, h => by simp at h
  | (y, ry) :: l, pre, k, hk, h, 0, y', ry', h' => by
    simp only [List.getElem?_cons_zero, Option.some.injEq, Prod.mk.injEq] at h'
    obtain ⟨rfl, rfl⟩ := h'
    simp only [compatL, Bool.and_eq_true] at h
    refine ⟨h.1.1, fun i x rx hi hx => ?_⟩
    rw [List.getElem?_append_left (by omega)] at hx
    simpa using compatO_get pre 0 h.1.2 i x rx hx
  | (y, ry) :: l, pre, k, hk, h, j + 1, y', ry', h' => by
    simp only [compatL, Bool.and_eq_true] at h
    have := compatL_get l (pre ++ [(y, ry)]) (k + 1) (by simp [hk]) h.2 j y' ry' (by simpa using h')
    rw [show k + 1 + j = k + (j + 1) by omega] at this
    refine ⟨this.1, fun i x rx hi hx => this.2 i x rx hi ?_⟩
    simpa using hx

/-- The state behind those operations that S holds. -/
def stAt (S : Nat → Bool) : List (Oper × Rc) → Nat → St → St
  | [], _, s => s
  | (o, r) :: l, i, s => stAt S l (i + 1) (if S i = true then app o r s else s)

theorem app_comm {x y : Oper} {rx ry : Rc} (h : apartO ops x y (rx.rl, rx.wl) (ry.rl, ry.wl) = true) (s : St) : app y ry (app x rx s) = app x rx (app y ry s) := by
  simp only [apartO, Bool.and_eq_true] at h
  obtain ⟨⟨h1, h2⟩, h3⟩ := h
  obtain ⟨a1, a2, a3⟩ := Oper.apart_spec h1
  have hT : putT (putT s.T x.dst rx.f.val) y.dst ry.f.val = putT (putT s.T y.dst ry.f.val) x.dst rx.f.val := by
    funext t
    cases hx : x.dst with
    | none => simp [putT]
    | some d =>
      cases hy : y.dst with
      | none => simp [putT]
      | some d' =>
        have : d' ≠ d := fun e => a2 d hx (by rw [hy, e])
        simp only [putT, upd]
        by_cases e1 : t = d
        · subst e1; simp [Ne.symm this]
        · simp [e1]
  have hH : ry.f.heap (rx.f.heap s.H) = rx.f.heap (ry.f.heap s.H) := by
    unfold Eff.heap
    simp only [Rc.wl] at h2
    cases hx : rx.f.hu with
    | none => rfl
    | some p =>
      obtain ⟨d, o⟩ := p
      cases hy : ry.f.hu with
      | none => rfl
      | some q =>
        obtain ⟨d', o'⟩ := q
        rw [hx, hy] at h2
        simp at h2
        have hne : d' ≠ d := fun e => h2.2 (by rw [e])
        funext t
        simp only [upd]
        by_cases e1 : t = d
        · subst e1; simp [Ne.symm hne]
        · simp [e1]
  simp only [app, hT, hH]

theorem stAt_app {S : Nat → Bool} {o : Oper} {r : Rc} : ∀ (l : List (Oper × Rc)) (i : Nat) (s : St), (∀ j x rx, l[j]? = some (x, rx) → S (i + j) = true → apartO ops o x (r.rl, r.wl) (rx.rl, rx.wl) = true) →
    stAt S l i (app o r s) = app o r (stAt S l i s)
  | [], _, _, _ => rfl
  | (x, rx) :: l, i, s, h => by
    have h0 := h 0 x rx rfl
    have hl : ∀ s, stAt S l (i + 1) (app o r s) = app o r (stAt S l (i + 1) s) := fun s => stAt_app l (i + 1) s fun j y ry hj hS => h (j + 1) y ry (by simpa using hj) (by rwa [show i + 1 + j = i + (j + 1) by omega] at hS)
    simp only [stAt]
    by_cases hS : S i = true
    · simp only [hS, if_true]
      rw [← hl, app_comm (h0 hS)]
    · simp only [hS]
      exact hl s

/-- One more. -/
theorem stAt_insert {S : Nat → Bool} {k : Nat} (hk : S k = false) : ∀ (l : List (Oper × Rc)) (i : Nat) (s : St) (o : Oper) (r : Rc), i ≤ k → l[k - i]? = some (o, r) →
    (∀ j x rx, l[j]? = some (x, rx) → k < i + j → S (i + j) = true → apartO ops o x (r.rl, r.wl) (rx.rl, rx.wl) = true) →
    stAt (fun j => S j || decide (j = k)) l i s = app o r (stAt S l i s)
  | [], _, _, _, _, _, h, _ => by simp at h
  | (x, rx) :: l, i, s, o, r, hi, h, ha => by
    have hout : ∀ (l : List (Oper × Rc)) (i : Nat) (s : St), k < i → stAt (fun j => S j || decide (j = k)) l i s = stAt S l i s := by
      intro l
      induction l with
      | nil => intro i s _; rfl
      | cons p l ih =>
        intro i s hi
        simp only [stAt]
        rw [ih _ _ (by omega)]
        have : decide (i = k) = false := by simp; omega
        simp [this]
    by_cases hik : i = k
    · subst hik
      simp only [Nat.sub_self, List.getElem?_cons_zero, Option.some.injEq, Prod.mk.injEq] at h
      obtain ⟨rfl, rfl⟩ := h
      simp only [stAt]
      rw [hout _ _ _ (by omega)]
      simp only [decide_true, Bool.or_true, if_true, hk, Bool.false_eq_true, if_false]
      exact stAt_app l (i + 1) s fun j y ry hj hS => ha (j + 1) y ry (by simpa using hj) (by omega) (by rwa [show i + 1 + j = i + (j + 1) by omega] at hS)
    · have : decide (i = k) = false := by simp [hik]
      simp only [stAt, this, Bool.or_false]
      refine stAt_insert hk l (i + 1) _ o r (by omega) ?_ ?_
      · have e : k - i = (k - (i + 1)) + 1 := by omega
        rw [e] at h
        simpa using h
      · intro j y ry hj hkj hS
        exact ha (j + 1) y ry (by simpa using hj) (by omega) (by rwa [show i + 1 + j = i + (j + 1) by omega] at hS)

theorem stAt_T {S S' : Nat → Bool} {t : Nat} : ∀ (l : List (Oper × Rc)) (i : Nat) (s s' : St), (∀ j x rx, l[j]? = some (x, rx) → x.dst = some t → S (i + j) = S' (i + j)) → s.T t = s'.T t → (stAt S l i s).T t = (stAt S' l i s').T t
  | [], _, _, _, _, h => h
  | (x, rx) :: l, i, s, s', h, h0 => by
    simp only [stAt]
    refine stAt_T l (i + 1) _ _ (fun j y ry hj hy => by have := h (j + 1) y ry (by simpa using hj) hy; rwa [show i + (j + 1) = i + 1 + j by omega] at this) ?_
    have hx := h 0 x rx rfl
    by_cases hd : x.dst = some t
    · rw [← show S i = S' i from hx hd]
      split
      · simp [app, hd, putT]
      · exact h0
    · have hp : ∀ s : St, (app x rx s).T t = s.T t := by
        intro s
        cases hxd : x.dst with
        | none => simp [app, hxd, putT]
        | some d =>
          have : t ≠ d := fun e => hd (by rw [hxd, e])
          simp [app, hxd, putT, upd, this]
      split <;> split <;> first | exact h0 | (simp only [hp]; exact h0)

theorem stAt_H {S S' : Nat → Bool} {t : Nat} : ∀ (l : List (Oper × Rc)) (i : Nat) (s s' : St), (∀ j x rx, l[j]? = some (x, rx) → rx.wl = some t → S (i + j) = S' (i + j)) → s.H t = s'.H t → (stAt S l i s).H t = (stAt S' l i s').H t
  | [], _, _, _, _, h => h
  | (x, rx) :: l, i, s, s', h, h0 => by
    simp only [stAt]
    refine stAt_H l (i + 1) _ _ (fun j y ry hj hy => by have := h (j + 1) y ry (by simpa using hj) hy; rwa [show i + (j + 1) = i + 1 + j by omega] at this) ?_
    have hx := h 0 x rx rfl
    by_cases hd : rx.wl = some t
    · rw [← show S i = S' i from hx hd]
      split
      · simp only [Rc.wl, Option.map_eq_some_iff] at hd
        obtain ⟨⟨d, o⟩, h1, h2⟩ := hd
        simp only at h2
        subst h2
        simp [app, Eff.heap, h1]
      · exact h0
    · have hp : ∀ s : St, (app x rx s).H t = s.H t := by
        intro s
        simp only [app, Eff.heap]
        cases hxd : rx.f.hu with
        | none => rfl
        | some p =>
          obtain ⟨d, o⟩ := p
          have : t ≠ d := fun e => hd (by simp [Rc.wl, hxd, e])
          simp [upd, this]
      split <;> split <;> first | exact h0 | (simp only [hp]; exact h0)
end

section
variable (P : Program) (Θ : Tab) (nt : Nat) (base : Nat → Nat)

/-- What an operation does, wherever what it looks at is as it is here. -/
def opOK (o : Oper) (s : St) (r : Rc) : Prop :=
  ∀ s' : St, (∀ x ∈ o.op.operands, rdOp s'.T x = rdOp s.T x) → (∀ d ∈ r.rl, s'.H d = s.H d) → wpop P Θ nt base o (fun s'' => s'' = app o r s') s'

def stepOK (ops : Array Oper) (o : Oper) (s : St) (r : Rc) : Prop :=
  match o.guard with
  | none => opOK P Θ nt base o s r
  | some (j, want) => (∃ c, guardT (ops.toList.map (·.dst)) s.T j = .bool c ∧ (c = want → opOK P Θ nt base o s r) ∧ (c = !want → dstOK nt o.dst = true ∧ r.f = ⟨.tup [], none⟩)) ∨
    (guardT (ops.toList.map (·.dst)) s.T j = .tup [] ∧ dstOK nt o.dst = true ∧ r.f = ⟨.tup [], none⟩)

def Recs (ops : Array Oper) : List Oper → St → List Rc → Prop
  | [], _, rs => rs = []
  | o :: l, s, rs => ∃ r rs', rs = r :: rs' ∧ stepOK P Θ nt base ops o s r ∧ Recs ops l (app o r s) rs'
end

section
variable {P : Program} {Θ : Tab} {nt : Nat} {base : Nat → Nat} {ops : Array Oper}

theorem Recs.len : ∀ (l : List Oper) (s : St) (rs : List Rc), Recs P Θ nt base ops l s rs → rs.length = l.length
  | [], s, rs, h => by simp only [Recs] at h; simp [h]
  | o :: l, s, rs, h => by
    obtain ⟨r, rs', rfl, _, h'⟩ := h
    simp [Recs.len l _ rs' h']

/-- Each operation's step, at the state that those before it leave. -/
theorem Recs.get : ∀ (l : List Oper) (i : Nat) (s : St) (rs : List Rc), Recs P Θ nt base ops l s rs → ∀ k o r, l[k]? = some o → rs[k]? = some r →
    stepOK P Θ nt base ops o (stAt (fun j => decide (j < i + k)) (l.zip rs) i s) r
  | [], _, _, _, _, k, o, r, h, _ => by simp at h
  | o :: l, i, s, rs, h, k, o', r', ho, hr => by
    obtain ⟨r, rs', rfl, h1, h'⟩ := h
    have hnone : ∀ (l : List (Oper × Rc)) (i' : Nat) (s : St), stAt (fun j => decide (j < i)) l (i + i') s = s := by
      intro l
      induction l with
      | nil => intro i' s; rfl
      | cons p l ih =>
        intro i' s
        have : decide (i + i' < i) = false := by simp
        simp only [stAt, this, Bool.false_eq_true, if_false]
        exact ih (i' + 1) s
    cases k with
    | zero =>
      simp only [List.getElem?_cons_zero, Option.some.injEq] at ho hr
      subst ho
      subst hr
      have := hnone ((o :: l).zip (r :: rs')) 0 s
      simp only [Nat.add_zero] at this ⊢
      rw [this]
      exact h1
    | succ k =>
      have := Recs.get l (i + 1) (app o r s) rs' h' k o' r' (by simpa using ho) (by simpa using hr)
      have e : i + 1 + k = i + (k + 1) := by omega
      rw [e] at this
      have hlt : decide (i < i + (k + 1)) = true := by simp
      simp only [List.zip_cons_cons, stAt, hlt, if_true]
      exact this

/-- The state behind all. -/
def stEnd : List (Oper × Rc) → St → St
  | [], s => s
  | (o, r) :: l, s => stEnd l (app o r s)

theorem stAt_all {S : Nat → Bool} : ∀ (l : List (Oper × Rc)) (i : Nat) (s : St), (∀ j, j < l.length → S (i + j) = true) → stAt S l i s = stEnd l s
  | [], _, _, _ => rfl
  | (o, r) :: l, i, s, h => by
    have h0 : S i = true := h 0 (by simp)
    simp only [stAt, h0, if_true, stEnd]
    exact stAt_all l (i + 1) _ fun j hj => by have := h (j + 1) (by simpa using hj); rwa [show i + (j + 1) = i + 1 + j by omega] at this

theorem stAt_none {S : Nat → Bool} : ∀ (l : List (Oper × Rc)) (i : Nat) (s : St), (∀ j, j < l.length → S (i + j) = false) → stAt S l i s = s
  | [], _, _, _ => rfl
  | (o, r) :: l, i, s, h => by
    have h0 : S i = false := h 0 (by simp)
    simp only [stAt, h0, Bool.false_eq_true, if_false]
    exact stAt_none l (i + 1) _ fun j hj => by have := h (j + 1) (by simpa using hj); rwa [show i + (j + 1) = i + 1 + j by omega] at this

def fp (r : Rc) : List Nat × Option Nat := (r.rl, r.wl)

structure Inv (ops : Array Oper) (listed : Array Bool) : Prop where
  sz : listed.size = ops.size
  closed : ∀ (j : Nat) o, ops[j]? = some o → listed.getD j false = true → ∀ e ∈ o.after, Region.binds .any e = true → listed.getD e.on false = true

theorem ready_mem {listed : Array Bool} {i : Nat} : i ∈ Region.ready .any ops listed ↔ ∃ o, ops[i]? = some o ∧ listed.getD i true = false ∧ ∀ e ∈ o.after, Region.binds .any e = true → listed.getD e.on false = true := by
  unfold Region.ready
  simp only [List.mem_filter, List.mem_range, Bool.and_eq_true, Bool.not_eq_true']
  constructor
  · rintro ⟨h1, h2, h3⟩
    have ho : ops[i]? = some ops[i] := by simp [h1]
    rw [ho] at h3
    refine ⟨_, ho, h2, fun e he hb => ?_⟩
    simp only [Option.map_some, Option.getD_some, Array.all_eq_true', Bool.or_eq_true, Bool.not_eq_true'] at h3
    rcases h3 e he with h | h
    · rw [hb] at h; simp at h
    · exact h
  · rintro ⟨o, ho, h2, h3⟩
    have hi : i < ops.size := by
      rcases Nat.lt_or_ge i ops.size with h | h
      · exact h
      · rw [Array.getElem?_eq_none h] at ho; simp at ho
    refine ⟨hi, h2, ?_⟩
    rw [ho]
    simp only [Option.map_some, Option.getD_some, Array.all_eq_true', Bool.or_eq_true, Bool.not_eq_true']
    intro e he
    by_cases hb : Region.binds .any e = true
    · exact .inr (h3 e he hb)
    · exact .inl (by simpa using hb)

theorem wanted_none {o : Oper} {y : Nat → Option Bool} (h : o.guard = none) : Region.wanted o y = true := by simp [Region.wanted, h]

theorem guardT_at {s s' : St} {o : Oper} {j : Nat} {want : Bool} (hg : o.guard = some (j, want)) (h : ∀ t ∈ o.looksAt ops, s'.T t = s.T t) {x : Tr} (hx : x ≠ .any) (hc : guardT (ops.toList.map (·.dst)) s.T j = x) : guardT (ops.toList.map (·.dst)) s'.T j = x := by
  unfold guardT at hc ⊢
  split at hc
  · rename_i d hd
    have : d ∈ o.looksAt ops := by
      unfold Oper.looksAt
      rw [hg]
      rw [List.getElem?_map, Array.getElem?_toList] at hd
      refine List.mem_append_right _ ?_
      cases hq : ops[j]? with
      | none => rw [hq] at hd; simp at hd
      | some o' => rw [hq] at hd; simp only [Option.map_some, Option.some.injEq] at hd; simp [hq, hd]
    simp only [h d this, hc]
  · exact absurd hc.symm hx

theorem rdOp_at {s s' : St} {o : Oper} (h : ∀ t ∈ o.looksAt ops, s'.T t = s.T t) : ∀ x ∈ o.op.operands, rdOp s'.T x = rdOp s.T x := by
  intro x hx
  cases x with
  | tmp t =>
    refine h t ?_
    unfold Oper.looksAt
    refine List.mem_append_left _ ?_
    rw [List.mem_filterMap]
    exact ⟨.tmp t, by simpa using hx, rfl⟩
  | const v => rfl
  | global g => rfl
  | func f => rfl

theorem set_getD (listed : Array Bool) (i j : Nat) (hi : i < listed.size) : (listed.setIfInBounds i true).getD j false = (listed.getD j false || decide (j = i)) := by
  simp only [Array.getD_eq_getD_getElem?, Array.getElem?_setIfInBounds]
  by_cases h : i = j
  · subst h; simp [hi]
  · have : ¬ j = i := fun e => h e.symm
    simp [h, this]

theorem getD_tf (listed : Array Bool) (i : Nat) (h : i < listed.size) : listed.getD i true = listed.getD i false := by
  simp [Array.getD_eq_getD_getElem?, h]

variable (hΘ : TabOK P Θ)

include hΘ in
theorem draw_sound {s0 : St} {rs : List Rc} (hrec : Recs P Θ nt base ops ops.toList s0 rs) (hc : compatB ops (rs.map fp) = true) {M0 : Mem} {Q : Exit → Act → World → Prop}
    (hQ : ∀ M a, Gam M0 nt (stEnd (ops.toList.zip rs) s0) M a → Q .normal a M.w) :
    ∀ (fuel : Nat) (listed : Array Bool) (M : Mem) (a : Act), Inv ops listed → listed.toList.count false ≤ fuel → Gam M0 nt (stAt (fun j => listed.getD j false) (ops.toList.zip rs) 0 s0) M a →
      wpAny P .any ops Q fuel listed a M.w := by
  have hlen := Recs.len _ _ _ hrec
  have hzl : (ops.toList.zip rs).length = ops.size := by simp [hlen]
  have hzget : ∀ (k : Nat) o r, (ops.toList.zip rs)[k]? = some (o, r) ↔ ops[k]? = some o ∧ rs[k]? = some r := by
    intro k o r
    rw [List.getElem?_zip_eq_some, Array.getElem?_toList]
  have hz2 : ∀ (k : Nat) o r, ops[k]? = some o → rs[k]? = some r → (ops.toList.zip (rs.map fp))[k]? = some (o, fp r) := by
    intro k o r h1 h2
    rw [List.getElem?_zip_eq_some, Array.getElem?_toList, List.getElem?_map, h2]
    exact ⟨h1, rfl⟩
  have hcomp : ∀ (k : Nat) y ry, ops[k]? = some y → rs[k]? = some ry → backs y k = true ∧ ∀ (i : Nat) x rx, i < k → ops[i]? = some x → rs[i]? = some rx → edgeTo y i = true ∨ apartO ops x y (fp rx) (fp ry) = true := by
    intro k y ry h1 h2
    have := compatL_get _ [] 0 rfl hc k y (fp ry) (hz2 k y ry h1 h2)
    simp only [Nat.zero_add, List.nil_append] at this
    exact ⟨this.1, fun i x rx hi h3 h4 => this.2 i x (fp rx) hi (hz2 i x rx h3 h4)⟩
  have hrs : ∀ (k : Nat) o, ops[k]? = some o → ∃ r, rs[k]? = some r := by
    intro k o ho
    have hk : k < ops.size := by
      rcases Nat.lt_or_ge k ops.size with h | h
      · exact h
      · rw [Array.getElem?_eq_none h] at ho; simp at ho
    have : k < rs.length := by rw [hlen]; simpa using hk
    exact ⟨rs[k], by simp [this]⟩
  have hedge : ∀ {y : Oper} {i : Nat}, edgeTo y i = true → ∃ e ∈ y.after, Region.binds .any e = true ∧ e.on = i := by
    intro y i h
    simp only [edgeTo, Array.any_eq_true, Bool.and_eq_true, beq_iff_eq] at h
    obtain ⟨q, hq, h1, h2⟩ := h
    exact ⟨_, Array.getElem_mem hq, h1, h2⟩
  -- all are listed once none is ready
  have hdone : ∀ listed : Array Bool, Inv ops listed → Region.ready .any ops listed = [] → ∀ k, k < ops.size → listed.getD k false = true := by
    intro listed hI hr k
    induction k using Nat.strongRecOn with
    | ind k ih =>
      intro hk
      have ho : ops[k]? = some ops[k] := by simp [hk]
      obtain ⟨r, hr'⟩ := hrs k _ ho
      have hb := (hcomp k _ r ho hr').1
      cases hv : listed.getD k false with
      | true => rfl
      | false =>
        have : k ∈ Region.ready .any ops listed := ready_mem.2 ⟨_, ho, by rw [getD_tf _ _ (by rw [hI.sz]; exact hk)]; exact hv, fun e he hbd => by
          simp only [backs, Array.all_eq_true', Bool.or_eq_true, Bool.not_eq_true', decide_eq_true_eq] at hb
          rcases hb e he with h | h
          · rw [hbd] at h; simp at h
          · exact ih _ h (by omega)⟩
        rw [hr] at this
        simp at this
  have hend : ∀ (listed : Array Bool) (M : Mem) (a : Act), Inv ops listed → Region.ready .any ops listed = [] → Gam M0 nt (stAt (fun j => listed.getD j false) (ops.toList.zip rs) 0 s0) M a → Q .normal a M.w := by
    intro listed M a hI hr g
    refine hQ M a ?_
    rw [stAt_all] at g
    · exact g
    · intro j hj
      rw [Nat.zero_add]
      exact hdone listed hI hr j (by rw [hzl] at hj; exact hj)
  have hzero : ∀ listed : Array Bool, Inv ops listed → listed.toList.count false = 0 → Region.ready .any ops listed = [] := by
    intro listed hI h0
    rw [List.eq_nil_iff_forall_not_mem]
    intro i hi
    obtain ⟨o, ho, h1, _⟩ := ready_mem.1 hi
    have hk : i < listed.size := by
      rw [hI.sz]
      rcases Nat.lt_or_ge i ops.size with h | h
      · exact h
      · rw [Array.getElem?_eq_none h] at ho; simp at ho
    rw [List.count_eq_zero] at h0
    refine h0 ?_
    rw [getD_tf _ _ hk] at h1
    simp only [Array.getD_eq_getD_getElem?, hk, Array.getElem?_eq_getElem, Option.getD_some] at h1
    rw [← h1]
    simp
  intro fuel
  induction fuel with
  | zero =>
    intro listed M a hI h0 g
    have hr := hzero listed hI (by omega)
    exact ⟨hr, hend listed M a hI hr g⟩
  | succ fuel ih =>
    intro listed M a hI hcnt g
    refine ⟨fun hr => hend listed M a hI hr g, fun k hk => ?_⟩
    obtain ⟨o, ho, hk0, hkp⟩ := ready_mem.1 hk
    obtain ⟨r, hr⟩ := hrs k o ho
    have hksz : k < listed.size := by
      rw [hI.sz]
      rcases Nat.lt_or_ge k ops.size with h | h
      · exact h
      · rw [Array.getElem?_eq_none h] at ho; simp at ho
    rw [getD_tf _ _ hksz] at hk0
    let S : Nat → Bool := fun j => listed.getD j false
    have hstep := Recs.get _ 0 _ _ hrec k o r (by rw [Array.getElem?_toList]; exact ho) hr
    rw [Nat.zero_add] at hstep
    -- who may meet it
    have hpair : ∀ (j : Nat) x rx, ops[j]? = some x → rs[j]? = some rx → (S j = decide (j < k)) ∨ (j < k ∧ apartO ops x o (fp rx) (fp r) = true) ∨ (k < j ∧ apartO ops o x (fp r) (fp rx) = true) := by
      intro j x rx hx hrx
      rcases Nat.lt_trichotomy j k with h | h | h
      · rcases (hcomp k o r ho hr).2 j x rx h hx hrx with he | he
        · obtain ⟨e, hm, hb, rfl⟩ := hedge he
          exact .inl (by simp only [S, hkp e hm hb]; simp [h])
        · exact .inr (.inl ⟨h, he⟩)
      · subst h
        exact .inl (by show listed.getD j false = _; rw [hk0]; simp)
      · rcases (hcomp j x rx hx hrx).2 k o r h ho hr with he | he
        · obtain ⟨e, hm, hb, rfl⟩ := hedge he
          refine .inl ?_
          have hn : decide (j < e.on) = false := by simp; omega
          rw [hn]
          cases hv : S j with
          | false => rfl
          | true =>
            have := hI.closed j x hx hv e hm hb
            rw [hk0] at this
            simp at this
        · exact .inr (.inr ⟨h, he⟩)
    have hT : ∀ t ∈ o.looksAt ops, (stAt S (ops.toList.zip rs) 0 s0).T t = (stAt (fun j => decide (j < k)) (ops.toList.zip rs) 0 s0).T t := by
      intro t ht
      refine stAt_T _ 0 s0 s0 (fun j x rx hj hx => ?_) rfl
      rw [Nat.zero_add]
      obtain ⟨hj1, hj2⟩ := (hzget j x rx).1 hj
      rcases hpair j x rx hj1 hj2 with h | ⟨h, h'⟩ | ⟨h, h'⟩
      · exact h
      · simp only [apartO, Bool.and_eq_true] at h'
        exact absurd ht ((Oper.apart_spec h'.1.1).1 t hx)
      · simp only [apartO, Bool.and_eq_true] at h'
        exact absurd ht ((Oper.apart_spec h'.1.1).2.2 t hx)
    have hH : ∀ d ∈ r.rl, (stAt S (ops.toList.zip rs) 0 s0).H d = (stAt (fun j => decide (j < k)) (ops.toList.zip rs) 0 s0).H d := by
      intro d hd
      refine stAt_H _ 0 s0 s0 (fun j x rx hj hx => ?_) rfl
      rw [Nat.zero_add]
      obtain ⟨hj1, hj2⟩ := (hzget j x rx).1 hj
      rcases hpair j x rx hj1 hj2 with h | ⟨h, h'⟩ | ⟨h, h'⟩
      · exact h
      · simp only [apartO, fp, hx, Bool.and_eq_true, Bool.not_eq_true', List.contains_eq_mem, decide_eq_false_iff_not] at h'
        exact absurd hd h'.1.2.1
      · simp only [apartO, fp, hx, Bool.and_eq_true, Bool.not_eq_true', List.contains_eq_mem, decide_eq_false_iff_not] at h'
        exact absurd hd h'.2
    have hnext : ∀ (M' : Mem) (a' : Act), Gam M0 nt (app o r (stAt S (ops.toList.zip rs) 0 s0)) M' a' → wpAny P .any ops Q fuel (listed.setIfInBounds k true) a' M'.w := by
      intro M' a' g'
      have hS : (fun j => (listed.setIfInBounds k true).getD j false) = fun j => S j || decide (j = k) := by
        funext j
        exact set_getD listed k j hksz
      refine ih _ M' a' ⟨by simp [hI.sz], fun j x hx hj e he hb => ?_⟩ ?_ ?_
      · rw [set_getD _ _ _ hksz, Bool.or_eq_true] at hj ⊢
        rcases hj with hj | hj
        · exact .inl (hI.closed j x hx hj e he hb)
        · simp only [decide_eq_true_eq] at hj
          subst hj
          rw [ho] at hx
          cases hx
          exact .inl (hkp e he hb)
      · rw [Array.toList_setIfInBounds]
        have hlt : k < listed.toList.length := by simpa using hksz
        have hf : listed.toList[k] = false := by
          simpa [Array.getD_eq_getD_getElem?, hksz] using hk0
        rw [List.count_set hlt, hf]
        show List.count false listed.toList - 1 + 0 ≤ fuel
        omega
      · have hins := stAt_insert (S := S) (k := k) hk0 (ops.toList.zip rs) 0 s0 o r (Nat.zero_le _) (by rw [Nat.sub_zero]; exact (hzget k o r).2 ⟨ho, hr⟩) (by
          intro j x rx hj hkj hSj
          rw [Nat.zero_add] at hkj hSj
          obtain ⟨hj1, hj2⟩ := (hzget j x rx).1 hj
          rcases hpair j x rx hj1 hj2 with h | ⟨h, h'⟩ | ⟨h, h'⟩
          · rw [hSj] at h
            have : j < k := by simpa using h.symm
            omega
          · omega
          · exact h')
        rw [hS, hins]
        exact g'
    have hop : opOK P Θ nt base o (stAt (fun j => decide (j < k)) (ops.toList.zip rs) 0 s0) r → ∀ {K : Act → World → Prop}, (∀ (M' : Mem) (a' : Act), Gam M0 nt (app o r (stAt S (ops.toList.zip rs) 0 s0)) M' a' → K a' M'.w) → o.wp P a M.w K Q := by
      intro h K hK
      refine wpop_sound hΘ (h _ (rdOp_at hT) hH) g ?_
      rintro a' w' ⟨s', M', rfl, rfl, g'⟩
      exact hK M' a' g'
    unfold wpOp
    rw [ho]
    simp only []
    unfold stepOK at hstep
    split at hstep
    · rename_i hg
      rw [if_pos (wanted_none hg)]
      exact .inl (hop hstep hnext)
    · rename_i j want hg
      have skip : dstOK nt o.dst = true → r.f = ⟨.tup [], none⟩ → wpAny P .any ops Q fuel (listed.setIfInBounds k true) (a.put o.dst undef) M.w := by
        intro hd hf
        refine hnext M _ ?_
        have := g.put g.ok g.fr (Mono.refl M) hd (VR.skip M)
        rw [g.hH] at this
        simp only [app, hf]
        exact this
      rcases hstep with ⟨c, hc, hc1, hc2⟩ | ⟨hc, hd, hf⟩
      · have hy := yielded_guard g ops (guardT_at hg hT (by simp) hc)
        by_cases hcw : c = want
        · rw [if_pos (by simp [Region.wanted, hg, hy, hcw])]
          exact .inl (hop (hc1 hcw) hnext)
        · rw [if_neg (by simp [Region.wanted, hg, hy, hcw])]
          obtain ⟨hd, hf⟩ := hc2 (by cases c <;> cases want <;> simp_all)
          exact skip hd hf
      · have hy := yielded_skip g ops (guardT_at hg hT (by simp) hc)
        rw [if_neg (by simp [Region.wanted, hg, hy])]
        exact skip hd hf

/-- The same memory, a draw counted. -/
def Mem.drawn (M : Mem) (n : Nat) : Mem := ⟨{ M.w with drawn := n }, M.Im, M.β, M.H⟩

theorem Mono.drawn (M : Mem) (n : Nat) : Mono M (M.drawn n) := ⟨fun _ h => h, fun _ _ => rfl, fun _ => Nat.le_refl _, fun _ _ => ⟨rfl, fun _ _ xs h => ⟨xs, h⟩⟩⟩

theorem Gam.drawn {M0 : Mem} {s : St} {M : Mem} {a : Act} (g : Gam M0 nt s M a) (n : Nat) : Gam M0 nt s (M.drawn n) a where
  hH := g.hH
  ok := ⟨fun d => by
      by_cases hl : Live M d
      · exact (g.ok.objs d).mono (Mono.drawn M n) rfl (fun b K hb _ => rfl)
      · unfold Live at hl
        simp only [ne_eq, Classical.not_not] at hl
        unfold ObjR
        simp only [Mem.drawn, hl], g.ok.inj, g.ok.sep, g.ok.lt⟩
  fr := ⟨g.fr.os, g.fr.tape, g.fr.output, g.fr.size, g.fr.blk, g.fr.own, g.fr.im0, g.fr.im1⟩
  mono := g.mono.trans (Mono.drawn M n)
  tm t := (g.tm t).mono (Mono.drawn M n)
  sz := g.sz
  df := g.df

include hΘ in
/-- A region whose order is drawn. -/
theorem WP.draw (hm : P.follows .mixedOrders = true) {id : Nat} {s0 : St} {rs : List Rc} (hrec : Recs P Θ nt base ops ops.toList s0 rs) (hc : compatB ops (rs.map fp) = true) {K : Exit → St → Prop} (hK : K .normal (stEnd (ops.toList.zip rs) s0)) :
    WP P nt (.region id ops true) K s0 := by
  intro M0 M a g
  refine wp_region_any hm ?_
  refine draw_sound hΘ hrec hc (M0 := M0) (fun M' a' g' => ⟨_, M', rfl, hK, g'⟩) ops.size (Array.replicate ops.size false) (M.drawn (M.w.drawn + 1)) a ⟨by simp, fun j o hj hl => ?_⟩ ?_ ?_
  · simp only [Array.getD_eq_getD_getElem?, Array.getElem?_replicate] at hl
    split at hl <;> simp at hl
  · exact Nat.le_trans List.count_le_length (by simp)
  · rw [stAt_none]
    · exact g.drawn _
    · intro j _
      simp only [Array.getD_eq_getD_getElem?, Array.getElem?_replicate]
      split <;> simp

end
end Go.Proofs.Ytnonimnhninafaa.Ab

/- What an operation looks at. -/
namespace Go.Proofs.Ytnonimnhninafaa.Ab
open Go
set_option linter.unusedVariables false
set_option linter.unusedSimpArgs false

def lb : Tr → List Nat
  | .ptr d _ _ _ => [d]
  | .own d _ _ _ => [d]
  | _ => []

def foot (L : Nat) (rd : Operand → Tr) : Op → List Nat
  | .alloc _ => [L]
  | .box _ _ => [L]
  | .buildSlice _ _ _ => [L]
  | .makeSlice _ _ _ => [L]
  | .load _ x => lb (rd x)
  | .store _ x _ => lb (rd x)
  | .nilCheck x => lb (rd x)
  | .slice _ x _ _ _ => lb (rd x)
  | .fieldAddr _ x _ => lb (rd x)
  | .indexAddr _ x _ => lb (rd x)
  | .call c => L :: c.args.toList.flatMap fun x => lb (rd x)
  | _ => []

section
variable {Θ : Tab} {H H' : Heap} {L : Nat}

theorem aAt_congr {x : Tr} (h : ∀ d ∈ lb x, H' d = H d) : aAt H' x = aAt H x := by
  cases x <;> simp only [lb, List.mem_singleton, forall_eq] at h <;> first | rfl | simp only [aAt, h]
theorem aPut_congr {x v : Tr} (h : ∀ d ∈ lb x, H' d = H d) : aPut H' x v = aPut H x v := by
  cases x <;> simp only [lb, List.mem_singleton, forall_eq] at h <;> first | rfl | simp only [aPut, h]
theorem aLoad_congr {t : TypeId} {x : Tr} (h : ∀ d ∈ lb x, H' d = H d) : aLoad Θ H' t x = aLoad Θ H t x := by unfold aLoad; rw [aAt_congr h]
theorem aStore_congr {t : TypeId} {x v : Tr} (h : ∀ d ∈ lb x, H' d = H d) : aStore Θ H' t x v = aStore Θ H t x v := by unfold aStore; rw [aAt_congr h, aPut_congr h]
theorem aFieldAddr_congr {t : TypeId} {x : Tr} {f : Nat} (h : ∀ d ∈ lb x, H' d = H d) : aFieldAddr Θ H' t x f = aFieldAddr Θ H t x f := by
  cases x <;> simp only [lb, List.mem_singleton, forall_eq] at h <;> first | rfl | (simp only [aFieldAddr, h]; done) | (rename_i y; cases y <;> rfl)
theorem aIndexAddr_congr {t : TypeId} {x i : Tr} (h : ∀ d ∈ lb x, H' d = H d) : aIndexAddr Θ H' t x i = aIndexAddr Θ H t x i := by
  cases x <;> simp only [lb, List.mem_singleton, forall_eq] at h <;> first | rfl | (simp only [aIndexAddr, h]; done) | (rename_i y; cases y <;> rfl)
theorem aSlice_congr {t : TypeId} {x : Tr} {lo hi : Option Tr} (h : ∀ d ∈ lb x, H' d = H d) : aSlice Θ H' t x lo hi = aSlice Θ H t x lo hi := by
  unfold aSlice
  cases Θ t with
  | none => rfl
  | some ti =>
    cases ti with
    | mk k _ _ _ =>
      cases k <;> cases x <;> first | rfl | (simp only [lb, List.mem_singleton, forall_eq] at h; simp only [h])
theorem aLen_congr {t : TypeId} {x : Tr} (h : ∀ d ∈ lb x, H' d = H d) : aLen Θ H' t x = aLen Θ H t x := by
  unfold aLen
  cases Θ t with
  | none => rfl
  | some ti =>
    cases ti with
    | mk k _ _ _ =>
      cases k <;> cases x <;> first | rfl | (simp only [lb, List.mem_singleton, forall_eq] at h; simp only [h])
theorem aElems_congr {n : Nat} {x : Tr} (h : ∀ d ∈ lb x, H' d = H d) : aElems H' n x = aElems H n x := by
  cases x <;> simp only [lb, List.mem_singleton, forall_eq] at h <;> first | rfl | simp only [aElems, h]
theorem aAppend_congr {t u : TypeId} {x y : Tr} (hL : H' L = H L) (hx : ∀ d ∈ lb x, H' d = H d) (hy : ∀ d ∈ lb y, H' d = H d) : aAppend Θ H' L t u x y = aAppend Θ H L t u x y := by
  unfold aAppend
  by_cases htu : t = u
  · rw [if_pos htu, if_pos htu]
    cases Θ t with
    | none => rfl
    | some ti =>
      cases ti with
      | mk k _ _ _ =>
        cases k with
        | slice e =>
          dsimp only
          cases Θ e with
          | none => rfl
          | some ei =>
            dsimp only
            rw [aElems_congr hy]
            cases aElems H ei.size y with
            | none => rfl
            | some ys => cases x <;> first | rfl | (simp only [lb, List.mem_singleton, forall_eq] at hx; simp only [hx]; done) | (simp only [hL]; done) | (simp only [lb, List.mem_singleton, forall_eq] at hx; rename_i d g lo n; cases lo <;> first | rfl | (simp only [hx]; done))
        | _ => rfl
  · rw [if_neg htu, if_neg htu]
theorem aCopy_congr {t : TypeId} {x y : Tr} (hx : ∀ d ∈ lb x, H' d = H d) (hy : ∀ d ∈ lb y, H' d = H d) : aCopy Θ H' t x y = aCopy Θ H t x y := by
  unfold aCopy
  cases Θ t with
  | none => rfl
  | some ti =>
    cases ti with
    | mk k _ _ _ =>
      cases k with
      | slice e =>
        dsimp only
        cases Θ e with
        | none => cases x <;> rfl
        | some ei => cases x <;> first | rfl | (simp only [lb, List.mem_singleton, forall_eq] at hx; simp only [hx, aElems_congr hy]; done)
      | _ => rfl

theorem aBuiltin_congr {b : Builtin} {tys : List TypeId} {args : List Tr} (hL : H' L = H L) (h : ∀ x ∈ args, ∀ d ∈ lb x, H' d = H d) : aBuiltin Θ H' L b tys args = aBuiltin Θ H L b tys args := by
  unfold aBuiltin
  split
  · rw [aLen_congr (h _ (by simp))]
  · rw [aAppend_congr hL (h _ (by simp)) (h _ (by simp))]
  · rw [aCopy_congr (h _ (by simp)) (h _ (by simp))]
  · rfl
  · rfl
  · rfl

theorem map_rd {rd rd' : Operand → Tr} {l : List Operand} (h : ∀ x ∈ l, rd' x = rd x) : l.map rd' = l.map rd := List.map_congr_left h
theorem map_rd2 {rd rd' : Operand → Tr} {l : List (Nat × Operand)} (h : ∀ x ∈ l.map (·.2), rd' x = rd x) : (l.map fun p => (p.1, rd' p.2)) = l.map fun p => (p.1, rd p.2) := by
  refine List.map_congr_left fun p hp => ?_
  rw [h p.2 (List.mem_map_of_mem hp)]

theorem aOp0_congr {rd rd' : Operand → Tr} {op : Op} (h1 : ∀ x ∈ op.operands, rd' x = rd x) (h2 : ∀ d ∈ foot L rd op, H' d = H d) : aOp0 Θ H' L rd' op = aOp0 Θ H L rd op := by
  cases op with
  | move x => simp only [aOp0, h1 x (by simp [Op.operands])]
  | assign x => simp only [aOp0, h1 x (by simp [Op.operands])]
  | pick c a b => simp only [aOp0, h1 c (by simp [Op.operands]), h1 a (by simp [Op.operands]), h1 b (by simp [Op.operands])]
  | alloc t => simp only [aOp0, h2 L (by simp [foot])]
  | box t x => simp only [aOp0, h1 x (by simp [Op.operands]), h2 L (by simp [foot])]
  | build t ps => simp only [aOp0, map_rd2 (l := ps.toList) (fun x hx => h1 x (by simpa [Op.operands] using hx))]
  | buildSlice t n ps => simp only [aOp0, map_rd2 (l := ps.toList) (fun x hx => h1 x (by simpa [Op.operands] using hx)), h2 L (by simp [foot])]
  | load t x => simp only [aOp0, h1 x (by simp [Op.operands]), aLoad_congr h2]
  | store t x v => simp only [aOp0, h1 x (by simp [Op.operands]), h1 v (by simp [Op.operands]), aStore_congr h2]
  | nilCheck x =>
    simp only [foot] at h2
    simp only [aOp0, h1 x (by simp [Op.operands])]
    generalize rd x = y at *
    cases y <;> simp only [lb, List.mem_singleton, forall_eq] at h2 <;> first | rfl | simp only [h2]
  | binOp o t x y t' => simp only [aOp0, h1 x (by simp [Op.operands]), h1 y (by simp [Op.operands])]
  | unOp o t x => simp only [aOp0, h1 x (by simp [Op.operands])]
  | convert s t x => simp only [aOp0, h1 x (by simp [Op.operands])]
  | makeFunc c fs cs =>
    have e : cs.toList.map rd' = cs.toList.map rd := map_rd fun x hx => h1 x (by simp only [Op.operands, Array.mem_append]; exact .inr (by simpa using hx))
    cases c <;> first | rfl | (simp only [aOp0, e]; done)
  | makeSlice t x y => simp only [aOp0, h1 x (by simp [Op.operands]), h1 y (by simp [Op.operands]), aMakeSlice, h2 L (by simp [foot])]
  | slice t x lo hi mx =>
    have e1 : lo.map rd' = lo.map rd := by cases lo <;> simp_all [Op.operands]
    have e2 : hi.map rd' = hi.map rd := by cases hi <;> simp_all [Op.operands]
    cases mx with
    | none => simp only [aOp0, h1 x (by simp [Op.operands]), e1, e2, aSlice_congr h2]
    | some m => rfl
  | fieldAddr t x f => simp only [aOp0, h1 x (by simp [Op.operands]), aFieldAddr_congr h2]
  | field t x f => simp only [aOp0, h1 x (by simp [Op.operands])]
  | indexAddr t x i => simp only [aOp0, h1 x (by simp [Op.operands]), h1 i (by simp [Op.operands]), aIndexAddr_congr h2]
  | index t x i => simp only [aOp0, h1 x (by simp [Op.operands]), h1 i (by simp [Op.operands])]
  | extract x i => simp only [aOp0, h1 x (by simp [Op.operands])]
  | call c =>
    obtain ⟨cal, args, tys⟩ := c
    cases cal with
    | builtin b =>
      have e : args.toList.map rd' = args.toList.map rd := map_rd fun x hx => h1 x (by simpa [Op.operands, Call.operands] using hx)
      simp only [aOp0, e]
      refine aBuiltin_congr (h2 L (by simp [foot])) fun y hy d hd => h2 d ?_
      simp only [foot, List.mem_cons, List.mem_flatMap]
      obtain ⟨x, hx, rfl⟩ := List.mem_map.1 hy
      exact .inr ⟨x, hx, hd⟩
    | _ => rfl
  | _ => rfl
theorem aOp_congr {rd rd' : Operand → Tr} {op : Op} (h1 : ∀ x ∈ op.operands, rd' x = rd x) (h2 : ∀ d ∈ foot L rd op, H' d = H d) : aOp Θ H' L rd' op = aOp Θ H L rd op := by
  unfold aOp
  rw [aOp0_congr h1 h2]
end
end Go.Proofs.Ytnonimnhninafaa.Ab

/- Facts of whole numbers, no program in sight. -/
namespace Go.Proofs.Ytnonimnhninafaa.Ab
open Go
set_option linter.unusedVariables false
set_option linter.unusedSimpArgs false

theorem wrap64 {x : Int} (h1 : -9223372036854775808 ≤ x) (h2 : x < 9223372036854775808) : IntKind.i64.wrap x = x := by
  simp only [IntKind.wrap, IntKind.bits, IntKind.signed, Bool.true_and]
  split <;> simp_all <;> omega

theorem wrapR (x : Int) : -9223372036854775808 ≤ IntKind.i64.wrap x ∧ IntKind.i64.wrap x < 9223372036854775808 := by
  simp only [IntKind.wrap, IntKind.bits, IntKind.signed, Bool.true_and]
  split <;> simp_all <;> omega

theorem and_mask (x : Int) (k : Nat) (hk : k ≤ 62) : bitOf .and .i64 x ((2 ^ k - 1 : Nat) : Int) = x % (2 ^ k : Nat) := by
  have hp : (2 : Nat) ^ k ≤ 2 ^ 62 := Nat.pow_le_pow_right (by decide) hk
  have hpos : 0 < (2 : Nat) ^ k := Nat.pow_pos (by decide)
  have e : (BitVec.ofInt IntKind.i64.bits x &&& BitVec.ofInt IntKind.i64.bits ((2 ^ k - 1 : Nat) : Int)).toNat = (x % (2 ^ k : Nat)).toNat := by
    rw [BitVec.toNat_and, BitVec.toNat_ofInt, BitVec.toNat_ofInt]
    have h1 : (((2 ^ k - 1 : Nat) : Int) % ((2 ^ IntKind.i64.bits : Nat) : Int)).toNat = 2 ^ k - 1 := by
      rw [Int.emod_eq_of_lt (by omega) (by simp only [IntKind.bits]; omega)]
      simp
    rw [h1, Nat.and_two_pow_sub_one_eq_mod]
    have h2 : 0 ≤ x % ((2 ^ IntKind.i64.bits : Nat) : Int) := Int.emod_nonneg _ (by simp [IntKind.bits])
    have h3 : ((x % ((2 ^ IntKind.i64.bits : Nat) : Int)).toNat % 2 ^ k : Nat) = (x % ((2 ^ IntKind.i64.bits : Nat) : Int) % ((2 ^ k : Nat) : Int)).toNat := by
      rw [Int.toNat_emod h2 (by omega), Int.toNat_natCast]
    rw [h3, Int.emod_emod_of_dvd]
    have : IntKind.i64.bits = k + (64 - k) := by simp only [IntKind.bits]; omega
    rw [this, Nat.pow_add]
    exact ⟨((2 ^ (64 - k) : Nat) : Int), by simp⟩
  show IntKind.i64.wrap _ = _
  rw [e]
  have h4 : 0 ≤ x % ((2 ^ k : Nat) : Int) := Int.emod_nonneg _ (by omega)
  have h5 : x % ((2 ^ k : Nat) : Int) < ((2 ^ k : Nat) : Int) := Int.emod_lt_of_pos _ (by omega)
  rw [Int.toNat_of_nonneg h4]
  exact wrap64 (by omega) (by omega)

end Go.Proofs.Ytnonimnhninafaa.Ab

/- The walk as rewriting: code and what is behind it. -/
namespace Go.Proofs.Ytnonimnhninafaa.Ab
open Go
set_option linter.unusedVariables false
set_option linter.unusedSimpArgs false

/-- A region whose order is drawn bears what its operations have looked at and turned. -/
abbrev Drw := Option (Array Oper × List (List Nat × Option Nat))

def nxtD (D : Drw) (rl : List Nat) (wl : Option Nat) : Drw :=
  match D with
  | none => none
  | some (ops, acc) => some (ops, (rl, wl) :: acc)

def callX (P : Program) (D : Drw) (f : FuncId) (args : List Tr) (H : Heap) (R : Drw → Tr → Heap → Prop) : Prop :=
  match D with
  | none => CallSem P f args H (R none)
  | some (ops, acc) => ∃ (rl : List Nat) (e : Eff), (∀ H', (∀ d ∈ rl, H' d = H d) → CallSem P f args H' fun r H'' => r = e.val ∧ H'' = e.heap H') ∧ R (some (ops, (rl, e.hu.map (·.1)) :: acc)) e.val (e.heap H)

section
variable (P : Program) (Θ : Tab) (nt : Nat) (base : Nat → Nat)

def opX (o : Oper) (D : Drw) (K : Drw → St → Prop) (s : St) : Prop :=
  match o.op with
  | .call { callee := .value x, args, argTypes := _ } =>
    match rdOp s.T x with
    | .clo f caps => dstOK nt o.dst = true ∧ callX P D f (args.toList.map (rdOp s.T) ++ caps) s.H fun D' r H' => K D' { T := putT s.T o.dst r, H := H' }
    | _ => False
  | op => match aOp Θ s.H (lab base o.dst) (rdOp s.T) op with
    | some f => dstOK nt o.dst = true ∧ K (nxtD D (foot (lab base o.dst) (rdOp s.T) op) (f.hu.map (·.1))) { T := putT s.T o.dst f.val, H := f.heap s.H }
    | none => False

def wpX (ds : List (Option Tmp)) : List Oper → Drw → (St → Prop) → St → Prop
  | [], none, K, s => K s
  | [], some (ops, acc), K, s => compatB ops acc.reverse = true ∧ K s
  | o :: rest, D, K, s =>
    match o.guard with
    | none => opX P Θ nt base o D (fun D' s => wpX ds rest D' K s) s
    | some (j, want) =>
      match guardT ds s.T j with
      | .bool c => (c = want → opX P Θ nt base o D (fun D' s => wpX ds rest D' K s) s) ∧ (c = !want → dstOK nt o.dst = true ∧ wpX ds rest (nxtD D [] none) K { T := putT s.T o.dst (.tup []), H := s.H })
      | .tup [] => dstOK nt o.dst = true ∧ wpX ds rest (nxtD D [] none) K { T := putT s.T o.dst (.tup []), H := s.H }
      | _ => False
end

section
variable {P : Program} {Θ : Tab} {nt : Nat} {base : Nat → Nat}

theorem opX_none {o : Oper} {K : Drw → St → Prop} {s : St} (h : opX P Θ nt base o none K s) : wpop P Θ nt base o (K none) s := by
  unfold opX at h
  unfold wpop
  split at h
  · rename_i x args tys hop
    rw [hop]
    exact h
  · rename_i op hno
    split
    · rename_i x args tys hop
      exact absurd hop (hno _ _ _)
    · split at h
      · rename_i f hf
        rw [hf]
        exact h
      · exact h.elim

theorem wpop_mono {o : Oper} {K K' : St → Prop} {s : St} (h : wpop P Θ nt base o K s) (hk : ∀ s, K s → K' s) : wpop P Θ nt base o K' s := by
  unfold wpop at *
  split at h
  · split at h
    · exact ⟨h.1, h.2.mono fun _ _ hr => hk _ hr⟩
    · exact h.elim
  · split at h
    · exact ⟨h.1, hk _ h.2⟩
    · exact h.elim

theorem wpX_none (ds : List (Option Tmp)) : ∀ (l : List Oper) (K : St → Prop) (s : St), wpX P Θ nt base ds l none K s → wpo P Θ nt base ds l K s
  | [], K, s, h => h
  | o :: l, K, s, h => by
    unfold wpX at h
    unfold wpo
    split at h
    · rename_i hg
      rw [hg]
      exact wpop_mono (opX_none h) fun s hs => wpX_none ds l K s hs
    · rename_i j want hg
      rw [hg]
      split at h
      · rename_i c hc
        simp only [hc]
        exact ⟨fun hc => wpop_mono (opX_none (h.1 hc)) fun s hs => wpX_none ds l K s hs, fun hc => ⟨(h.2 hc).1, wpX_none ds l K _ (h.2 hc).2⟩⟩
      · rename_i hc
        simp only [hc]
        exact ⟨h.1, wpX_none ds l K _ h.2⟩
      · exact h.elim

theorem opX_some {o : Oper} {ops : Array Oper} {acc : List (List Nat × Option Nat)} {K : Drw → St → Prop} {s : St} (h : opX P Θ nt base o (some (ops, acc)) K s) :
    ∃ r, opOK P Θ nt base o s r ∧ K (some (ops, fp r :: acc)) (app o r s) := by
  unfold opX at h
  split at h
  · rename_i x args tys hop
    split at h
    · rename_i f caps hx
      obtain ⟨hd, rl, e, hc, hK⟩ := h
      refine ⟨⟨e, rl⟩, fun s' h1 h2 => ?_, hK⟩
      unfold wpop
      rw [hop]
      have e1 : rdOp s'.T x = rdOp s.T x := h1 x (by rw [hop]; simp [Op.operands, Call.operands])
      have e2 : args.toList.map (rdOp s'.T) = args.toList.map (rdOp s.T) := List.map_congr_left fun y hy => h1 y (by rw [hop]; simp only [Op.operands, Call.operands, Array.mem_append]; exact .inr (by simpa using hy))
      simp only [e1, hx, e2]
      refine ⟨hd, (hc s'.H h2).mono ?_⟩
      rintro r H'' ⟨rfl, rfl⟩
      rfl
    · exact h.elim
  · rename_i op hno
    split at h
    · rename_i f hf
      refine ⟨⟨f, foot (lab base o.dst) (rdOp s.T) o.op⟩, fun s' h1 h2 => ?_, h.2⟩
      have := aOp_congr (Θ := Θ) (L := lab base o.dst) h1 h2
      unfold wpop
      split
      · rename_i x args tys hop
        exact absurd hop (by intro hop; exact hno _ _ _ hop)
      · rw [this, hf]
        exact ⟨h.1, rfl⟩
    · exact h.elim

theorem wpX_some (ops : Array Oper) : ∀ (l : List Oper) (acc : List (List Nat × Option Nat)) (K : St → Prop) (s : St), wpX P Θ nt base (ops.toList.map (·.dst)) l (some (ops, acc)) K s →
    ∃ rs, Recs P Θ nt base ops l s rs ∧ compatB ops (acc.reverse ++ rs.map fp) = true ∧ K (stEnd (l.zip rs) s)
  | [], acc, K, s, h => ⟨[], rfl, by simpa using h.1, h.2⟩
  | o :: l, acc, K, s, h => by
    have go : opX P Θ nt base o (some (ops, acc)) (fun D' s => wpX P Θ nt base (ops.toList.map (·.dst)) l D' K s) s → (∀ r, opOK P Θ nt base o s r → stepOK P Θ nt base ops o s r) → 
        ∃ rs, Recs P Θ nt base ops (o :: l) s rs ∧ compatB ops (acc.reverse ++ rs.map fp) = true ∧ K (stEnd ((o :: l).zip rs) s) := by
      intro h hs
      obtain ⟨r, h1, h2⟩ := opX_some h
      obtain ⟨rs, k1, k2, k3⟩ := wpX_some ops l _ K _ h2
      exact ⟨r :: rs, ⟨r, rs, rfl, hs r h1, k1⟩, by simpa using k2, k3⟩
    unfold wpX at h
    split at h
    · rename_i hg
      exact go h fun r hr => by unfold stepOK; rw [hg]; exact hr
    · rename_i j want hg
      split at h
      · rename_i c hc
        by_cases hcw : c = want
        · exact go (h.1 hcw) fun r hr => by
            unfold stepOK; rw [hg]
            refine .inl ?_
            exact ⟨c, hc, fun _ => hr, fun hn => by rw [hcw] at hn; cases want <;> simp at hn⟩
        · obtain ⟨hd, h2⟩ := h.2 (by cases c <;> cases want <;> simp_all)
          obtain ⟨rs, k1, k2, k3⟩ := wpX_some ops l _ K _ h2
          refine ⟨⟨⟨.tup [], none⟩, []⟩ :: rs, ⟨_, rs, rfl, ?_, k1⟩, by simpa [fp, Rc.wl] using k2, k3⟩
          unfold stepOK; rw [hg]
          exact .inl ⟨c, hc, fun h => absurd h hcw, fun _ => ⟨hd, rfl⟩⟩
      · rename_i hc
        obtain ⟨rs, k1, k2, k3⟩ := wpX_some ops l _ K _ h.2
        refine ⟨⟨⟨.tup [], none⟩, []⟩ :: rs, ⟨_, rs, rfl, ?_, k1⟩, by simpa [fp, Rc.wl] using k2, k3⟩
        unfold stepOK; rw [hg]
        exact .inr ⟨hc, h.1, rfl⟩
      · exact h.elim
end

def wpcX (P : Program) (Θ : Tab) (nt : Nat) (base : Nat → Nat) : Code → (Exit → St → Prop) → St → Prop
  | .skip, K, s => K .normal s
  | .label _, K, s => K .normal s
  | .ret, K, s => K .ret s
  | .exit id, K, s => K (.exit id) s
  | .seq a b, K, s => wpcX P Θ nt base a (thenK (wpcX P Θ nt base b K) K) s
  | .cond c x y, K, s =>
    match rdOp s.T c with
    | .bool b => (b = true → wpcX P Θ nt base x K s) ∧ (b = false → wpcX P Θ nt base y K s)
    | _ => False
  | .block id c, K, s => wpcX P Θ nt base c (inBlk id K) s
  | .scope c, K, s => wpcX P Θ nt base c (noGo K) s
  | .region _ ops draw, K, s => wpX P Θ nt base (ops.toList.map (·.dst)) ops.toList (if draw = true then some (ops, []) else none) (K .normal) s
  | .loop c, K, s => WP P nt (.loop c) K s
  | .rangeFunc f ps a b, K, s => WP P nt (.rangeFunc f ps a b) K s
  | .goto _, _, _ => False
  | .refuse _, _, _ => False


section
variable {P : Program} {Θ : Tab} (hΘ : TabOK P Θ) (hm : P.follows .mixedOrders = true)

include hΘ hm in
theorem wpcX_sound {nt : Nat} {base : Nat → Nat} : ∀ (c : Code) (K : Exit → St → Prop) (s : St), wpcX P Θ nt base c K s → WP P nt c K s
  | .skip, K, s, h => fun M0 M a g => wp_skip ⟨s, M, rfl, h, g⟩
  | .label _, K, s, h => fun M0 M a g => wp_label ⟨s, M, rfl, h, g⟩
  | .ret, K, s, h => fun M0 M a g => wp_ret ⟨s, M, rfl, h, g⟩
  | .exit id, K, s, h => fun M0 M a g => wp_exit ⟨s, M, rfl, h, g⟩
  | .seq x y, K, s, h => fun M0 M a g => by
    refine wp_seq (wp_mono (wpcX_sound x _ s h M0 M a g) ?_)
    rintro e a' w' ⟨s', M', rfl, hk, g'⟩
    cases e with
    | normal => exact wpcX_sound y K s' hk M0 M' a' g'
    | exit id => exact ⟨s', M', rfl, hk, g'⟩
    | goto l => exact ⟨s', M', rfl, hk, g'⟩
    | ret => exact ⟨s', M', rfl, hk, g'⟩
    | panic ch => exact ⟨s', M', rfl, hk, g'⟩
    | outgrown => exact ⟨s', M', rfl, hk, g'⟩
  | .cond c x y, K, s, h => fun M0 M a g => by
    unfold wpcX at h
    split at h
    · rename_i b hb
      have hv := rd_sound g c
      rw [hb] at hv
      exact wp_cond_split hv.bool_inv (fun hb => wpcX_sound x K s (h.1 hb) M0 M a g) (fun hb => wpcX_sound y K s (h.2 hb) M0 M a g)
    · exact h.elim
  | .block id c, K, s, h => fun M0 M a g => by
    refine wp_block (wp_mono (wpcX_sound c _ s h M0 M a g) ?_)
    rintro e a' w' ⟨s', M', rfl, hk, g'⟩
    cases e with
    | exit id' =>
      simp only [inBlk] at hk
      simp only [Exit.inBlock]
      split at hk
      · rename_i hid; rw [if_pos hid]; exact ⟨s', M', rfl, hk, g'⟩
      · rename_i hid; rw [if_neg hid]; exact ⟨s', M', rfl, hk, g'⟩
    | normal => exact ⟨s', M', rfl, hk, g'⟩
    | goto l => exact ⟨s', M', rfl, hk, g'⟩
    | ret => exact ⟨s', M', rfl, hk, g'⟩
    | panic ch => exact ⟨s', M', rfl, hk, g'⟩
    | outgrown => exact ⟨s', M', rfl, hk, g'⟩
  | .scope c, K, s, h => fun M0 M a g => by
    refine wp_scope_straight (wp_mono (wpcX_sound c _ s h M0 M a g) ?_)
    rintro e a' w' ⟨s', M', rfl, hk, g'⟩
    cases e with
    | goto l => exact hk
    | normal => exact ⟨s', M', rfl, hk, g'⟩
    | exit id => exact ⟨s', M', rfl, hk, g'⟩
    | ret => exact ⟨s', M', rfl, hk, g'⟩
    | panic ch => exact ⟨s', M', rfl, hk, g'⟩
    | outgrown => exact ⟨s', M', rfl, hk, g'⟩
  | .region id ops draw, K, s, h => fun M0 M a g => by
    unfold wpcX at h
    cases draw with
    | true =>
      simp only [if_true] at h
      obtain ⟨rs, k1, k2, k3⟩ := wpX_some ops _ _ _ _ h
      exact WP.draw hΘ hm k1 (by simpa using k2) k3 M0 M a g
    | false =>
      simp only [Bool.false_eq_true, if_false] at h
      exact wp_region_list (wpo_sound hΘ ops (fun a w ⟨s', M', h1, h2, h3⟩ => ⟨s', M', h1, h2, h3⟩) ops.toList s (wpX_none _ _ _ _ h) M a g)
  | .loop c, K, s, h => h
  | .rangeFunc f ps x y, K, s, h => h
  | .goto _, K, s, h => h.elim
  | .refuse _, K, s, h => h.elim

end

theorem opX_mono {P : Program} {Θ : Tab} {nt : Nat} {base : Nat → Nat} {o : Oper} {D : Drw} {K K' : Drw → St → Prop} {s : St} (h : opX P Θ nt base o D K s) (hk : ∀ D s, K D s → K' D s) : opX P Θ nt base o D K' s := by
  unfold opX at *
  split at h
  · split at h
    · refine ⟨h.1, ?_⟩
      have h2 := h.2
      cases D with
      | none =>
        simp only [callX] at h2 ⊢
        exact h2.mono fun _ _ hr => hk _ _ hr
      | some p => obtain ⟨rl, e, h3, h4⟩ := h2; exact ⟨rl, e, h3, hk _ _ h4⟩
    · exact h.elim
  · split at h
    · exact ⟨h.1, hk _ _ h.2⟩
    · exact h.elim

theorem wpX_mono {P : Program} {Θ : Tab} {nt : Nat} {base : Nat → Nat} (ds : List (Option Tmp)) {K K' : St → Prop} (hk : ∀ s, K s → K' s) : ∀ (l : List Oper) (D : Drw) (s : St), wpX P Θ nt base ds l D K s → wpX P Θ nt base ds l D K' s
  | [], none, s, h => hk s h
  | [], some (ops, acc), s, h => ⟨h.1, hk s h.2⟩
  | o :: l, D, s, h => by
    unfold wpX at h ⊢
    split at h
    · exact opX_mono h fun D s hs => wpX_mono ds hk l D s hs
    · split at h
      · exact ⟨fun hc => opX_mono (h.1 hc) fun D s hs => wpX_mono ds hk l D s hs, fun hc => ⟨(h.2 hc).1, wpX_mono ds hk l _ _ (h.2 hc).2⟩⟩
      · exact ⟨h.1, wpX_mono ds hk l _ _ h.2⟩
      · exact h.elim

theorem wpcX_mono {P : Program} {Θ : Tab} {nt : Nat} {base : Nat → Nat} : ∀ (c : Code) {K K' : Exit → St → Prop} (_ : ∀ e s, K e s → K' e s) (s : St), wpcX P Θ nt base c K s → wpcX P Θ nt base c K' s
  | .skip, _, _, hk, s, h => hk _ _ h
  | .label _, _, _, hk, s, h => hk _ _ h
  | .ret, _, _, hk, s, h => hk _ _ h
  | .exit _, _, _, hk, s, h => hk _ _ h
  | .seq x y, K, K', hk, s, h => wpcX_mono x (fun e s h => by
      cases e with
      | normal => exact wpcX_mono y hk s h
      | _ => exact hk _ _ h) s h
  | .cond c x y, K, K', hk, s, h => by
    unfold wpcX at h ⊢
    split at h
    · exact ⟨fun hb => wpcX_mono x hk s (h.1 hb), fun hb => wpcX_mono y hk s (h.2 hb)⟩
    · exact h.elim
  | .block id c, K, K', hk, s, h => wpcX_mono c (fun e s h => by
      cases e with
      | exit id' =>
        simp only [inBlk] at h ⊢
        split at h
        · rename_i hid; rw [if_pos hid]; exact hk _ _ h
        · rename_i hid; rw [if_neg hid]; exact hk _ _ h
      | _ => exact hk _ _ h) s h
  | .scope c, K, K', hk, s, h => wpcX_mono c (fun e s h => by
      cases e with
      | goto _ => exact h
      | _ => exact hk _ _ h) s h
  | .region _ ops draw, K, K', hk, s, h => wpX_mono _ (fun s h => hk _ _ h) _ _ _ h
  | .loop c, K, K', hk, s, h => WP.mono h hk
  | .rangeFunc _ _ _ _, K, K', hk, s, h => WP.mono h hk
  | .goto _, _, _, _, _, h => h.elim
  | .refuse _, _, _, _, _, h => h.elim

/-- The start of a walk. -/
theorem walk {P : Program} {Θ : Tab} {nt : Nat} {rs : List ResultVar} (hΘ : TabOK P Θ) (hm : P.follows .mixedOrders = true) {f : FuncId} {fn : Func} {c : Code} {args : List Tr} {H : Heap} {R : Tr → Heap → Prop} (hf : P.funcs[f]? = some fn) (hb : fn.body = some c)
    (hn : fn.ntmps = nt) (hr : fn.results.toList = rs) (hent : Enters P f) (hl : args.length ≤ nt) (base : Nat → Nat)
    (h : wpcX P Θ nt base c (retK Θ rs R) { T := argT args, H := H }) : CallSem P f args H R := by
  subst hn
  subst hr
  exact CallSem.of_body hΘ hf hb hent hl (wpcX_sound hΘ hm c _ _ h)

theorem frz_none_args (H0 : Heap) {args : List Tr} (hlf : lfL args = true) : args = args.map (frz H0 fun _ => false) := by
  conv => lhs; rw [← List.map_id args]
  exact List.map_congr_left fun x hx => (frz_lf H0 _ x ((lfL_iff _).1 hlf x hx)).symm

end Go.Proofs.Ytnonimnhninafaa.Ab
