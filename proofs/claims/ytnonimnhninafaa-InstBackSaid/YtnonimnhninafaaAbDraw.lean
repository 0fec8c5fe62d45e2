/- Regions whose order is drawn: the operations in their own order, if those that may change places do not meet. -/
import Derived.Test.YtnonimnhninafaaAbFun
import Derived.Orders
namespace Go.Proofs.Ytnonimnhninafaa.Ab
open Go

/-- What an operation did: what it yields and what it turned; the labels it looked at, the one it turned. -/
structure Rc where
  f : Eff
  rl : List Nat

def Rc.wl (r : Rc) : Option Nat := r.f.hu.map (·.1)

def app (o : Oper) (r : Rc) (s : St) : St := { T := putT s.T o.dst r.f.val, H := r.f.heap s.H }

/-- May two operations change places? -/
def apartO (ops : Array Oper) (x y : Oper) (rx ry : List Nat × Option Nat) : Bool :=
  x.apart ops y &&
  (match rx.2 with
   | some d => !ry.1.contains d && ry.2 != some d
   | none => true) &&
  (match ry.2 with
   | some d => !rx.1.contains d
   | none => true)

def edgeTo (o : Oper) (i : Nat) : Bool := o.after.any fun e => Region.binds .any e && e.on == i

def backs (o : Oper) (k : Nat) : Bool := o.after.all fun e => !Region.binds .any e || decide (e.on < k)

/-- Against all earlier ones. -/
def compatO (ops : Array Oper) (y : Oper) (ry : List Nat × Option Nat) : Nat → List (Oper × List Nat × Option Nat) → Bool
  | _, [] => true
  | i, (x, rx) :: l => (edgeTo y i || apartO ops x y rx ry) && compatO ops y ry (i + 1) l

def compatL (ops : Array Oper) (pre : List (Oper × List Nat × Option Nat)) : Nat → List (Oper × List Nat × Option Nat) → Bool
  | _, [] => true
  | k, (y, ry) :: l => backs y k && compatO ops y ry 0 pre && compatL ops (pre ++ [(y, ry)]) (k + 1) l

def compatB (ops : Array Oper) (fs : List (List Nat × Option Nat)) : Bool := compatL ops [] 0 (ops.toList.zip fs)

section
variable {ops : Array Oper}

theorem compatO_get {y : Oper} {ry : List Nat × Option Nat} : ∀ (l : List (Oper × List Nat × Option Nat)) (i : Nat), compatO ops y ry i l = true → ∀ j x rx, l[j]? = some (x, rx) → edgeTo y (i + j) = true ∨ apartO ops x y rx ry = true
  | [], _, _, j, x, rx, h => by simp at h
  | (x, rx) :: l, i, h, 0, x', rx', h' => by
    simp only [List.getElem?_cons_zero, Option.some.injEq, Prod.mk.injEq] at h'
    obtain ⟨rfl, rfl⟩ := h'
    simp only [compatO, Bool.and_eq_true, Bool.or_eq_true] at h
    exact h.1
  | (x, rx) :: l, i, h, j + 1, x', rx', h' => by
    simp only [compatO, Bool.and_eq_true] at h
    have := compatO_get l (i + 1) h.2 j x' rx' (by simpa using h')
    rwa [show i + 1 + j = i + (j + 1) by omega] at this

theorem compatL_get : ∀ (l pre : List (Oper × List Nat × Option Nat)) (k : Nat), pre.length = k → compatL ops pre k l = true → ∀ j y ry, l[j]? = some (y, ry) →
    backs y (k + j) = true ∧ ∀ i x rx, i < k + j → (pre ++ l)[i]? = some (x, rx) → edgeTo y i = true ∨ apartO ops x y rx ry = true
  | [], _, _, _, _, j, y, ry, h => by simp at h
  | (y, ry) :: l, pre, k, hk, h, 0, y', ry', h' => by
    simp only [List.getElem?_cons_zero, Option.some.injEq, Prod.mk.injEq] at h'
    obtain ⟨rfl, rfl⟩ := h'
    simp only [compatL, Bool.and_eq_true] at h
    refine ⟨h.1.1, fun i x rx hi hx => ?_⟩
    rw [List.getElem?_append_left (by omega)] at hx
    simpa using compatO_get pre 0 h.1.2 i x rx hx
  | (y, ry) :: l, pre, k, hk, h, j + 1, y', ry', h' => by
    simp only [compatL, Bool.and_eq_true] at h
    have := compatL_get l (pre ++ [(y, ry)]) (k + 1) (by simp [hk]) h.2 j y' ry' (by simpa using h')
    rw [show k + 1 + j = k + (j + 1) by omega] at this
    refine ⟨this.1, fun i x rx hi hx => this.2 i x rx hi ?_⟩
    simpa using hx

/-- The state behind those operations that S holds. -/
def stAt (S : Nat → Bool) : List (Oper × Rc) → Nat → St → St
  | [], _, s => s
  | (o, r) :: l, i, s => stAt S l (i + 1) (if S i = true then app o r s else s)

theorem app_comm {x y : Oper} {rx ry : Rc} (h : apartO ops x y (rx.rl, rx.wl) (ry.rl, ry.wl) = true) (s : St) : app y ry (app x rx s) = app x rx (app y ry s) := by
  simp only [apartO, Bool.and_eq_true] at h
  obtain ⟨⟨h1, h2⟩, h3⟩ := h
  obtain ⟨a1, a2, a3⟩ := Oper.apart_spec h1
  have hT : putT (putT s.T x.dst rx.f.val) y.dst ry.f.val = putT (putT s.T y.dst ry.f.val) x.dst rx.f.val := by
    funext t
    cases hx : x.dst with
    | none => simp [putT]
    | some d =>
      cases hy : y.dst with
      | none => simp [putT]
      | some d' =>
        have : d' ≠ d := fun e => a2 d hx (by rw [hy, e])
        simp only [putT, upd]
        by_cases e1 : t = d
        · subst e1; simp [Ne.symm this]
        · simp [e1]
  have hH : ry.f.heap (rx.f.heap s.H) = rx.f.heap (ry.f.heap s.H) := by
    unfold Eff.heap
    simp only [Rc.wl] at h2
    cases hx : rx.f.hu with
    | none => rfl
    | some p =>
      obtain ⟨d, o⟩ := p
      cases hy : ry.f.hu with
      | none => rfl
      | some q =>
        obtain ⟨d', o'⟩ := q
        rw [hx, hy] at h2
        simp at h2
        have hne : d' ≠ d := fun e => h2.2 (by rw [e])
        funext t
        simp only [upd]
        by_cases e1 : t = d
        · subst e1; simp [Ne.symm hne]
        · simp [e1]
  simp only [app, hT, hH]

theorem stAt_app {S : Nat → Bool} {o : Oper} {r : Rc} : ∀ (l : List (Oper × Rc)) (i : Nat) (s : St), (∀ j x rx, l[j]? = some (x, rx) → S (i + j) = true → apartO ops o x (r.rl, r.wl) (rx.rl, rx.wl) = true) →
    stAt S l i (app o r s) = app o r (stAt S l i s)
  | [], _, _, _ => rfl
  | (x, rx) :: l, i, s, h => by
    have h0 := h 0 x rx rfl
    have hl : ∀ s, stAt S l (i + 1) (app o r s) = app o r (stAt S l (i + 1) s) := fun s => stAt_app l (i + 1) s fun j y ry hj hS => h (j + 1) y ry (by simpa using hj) (by rwa [show i + 1 + j = i + (j + 1) by omega] at hS)
    simp only [stAt]
    by_cases hS : S i = true
    · simp only [hS, if_true]
      rw [← hl, app_comm (h0 hS)]
    · simp only [hS]
      exact hl s

/-- One more. -/
theorem stAt_insert {S : Nat → Bool} {k : Nat} (hk : S k = false) : ∀ (l : List (Oper × Rc)) (i : Nat) (s : St) (o : Oper) (r : Rc), i ≤ k → l[k - i]? = some (o, r) →
    (∀ j x rx, l[j]? = some (x, rx) → k < i + j → S (i + j) = true → apartO ops o x (r.rl, r.wl) (rx.rl, rx.wl) = true) →
    stAt (fun j => S j || decide (j = k)) l i s = app o r (stAt S l i s)
  | [], _, _, _, _, _, h, _ => by simp at h
  | (x, rx) :: l, i, s, o, r, hi, h, ha => by
    have hout : ∀ (l : List (Oper × Rc)) (i : Nat) (s : St), k < i → stAt (fun j => S j || decide (j = k)) l i s = stAt S l i s := by
      intro l
      induction l with
      | nil => intro i s _; rfl
      | cons p l ih =>
        intro i s hi
        simp only [stAt]
        rw [ih _ _ (by omega)]
        have : decide (i = k) = false := by simp; omega
        simp [this]
    by_cases hik : i = k
    · subst hik
      simp only [Nat.sub_self, List.getElem?_cons_zero, Option.some.injEq, Prod.mk.injEq] at h
      obtain ⟨rfl, rfl⟩ := h
      simp only [stAt]
      rw [hout _ _ _ (by omega)]
      simp only [decide_true, Bool.or_true, if_true, hk, Bool.false_eq_true, if_false]
      exact stAt_app l (i + 1) s fun j y ry hj hS => ha (j + 1) y ry (by simpa using hj) (by omega) (by rwa [show i + 1 + j = i + (j + 1) by omega] at hS)
    · have : decide (i = k) = false := by simp [hik]
      simp only [stAt, this, Bool.or_false]
      refine stAt_insert hk l (i + 1) _ o r (by omega) ?_ ?_
      · have e : k - i = (k - (i + 1)) + 1 := by omega
        rw [e] at h
        simpa using h
      · intro j y ry hj hkj hS
        exact ha (j + 1) y ry (by simpa using hj) (by omega) (by rwa [show i + 1 + j = i + (j + 1) by omega] at hS)

theorem stAt_T {S S' : Nat → Bool} {t : Nat} : ∀ (l : List (Oper × Rc)) (i : Nat) (s s' : St), (∀ j x rx, l[j]? = some (x, rx) → x.dst = some t → S (i + j) = S' (i + j)) → s.T t = s'.T t → (stAt S l i s).T t = (stAt S' l i s').T t
  | [], _, _, _, _, h => h
  | (x, rx) :: l, i, s, s', h, h0 => by
    simp only [stAt]
    refine stAt_T l (i + 1) _ _ (fun j y ry hj hy => by have := h (j + 1) y ry (by simpa using hj) hy; rwa [show i + (j + 1) = i + 1 + j by omega] at this) ?_
    have hx := h 0 x rx rfl
    by_cases hd : x.dst = some t
    · rw [← show S i = S' i from hx hd]
      split
      · simp [app, hd, putT]
      · exact h0
    · have hp : ∀ s : St, (app x rx s).T t = s.T t := by
        intro s
        cases hxd : x.dst with
        | none => simp [app, hxd, putT]
        | some d =>
          have : t ≠ d := fun e => hd (by rw [hxd, e])
          simp [app, hxd, putT, upd, this]
      split <;> split <;> first | exact h0 | (simp only [hp]; exact h0)

theorem stAt_H {S S' : Nat → Bool} {t : Nat} : ∀ (l : List (Oper × Rc)) (i : Nat) (s s' : St), (∀ j x rx, l[j]? = some (x, rx) → rx.wl = some t → S (i + j) = S' (i + j)) → s.H t = s'.H t → (stAt S l i s).H t = (stAt S' l i s').H t
  | [], _, _, _, _, h => h
  | (x, rx) :: l, i, s, s', h, h0 => by
    simp only [stAt]
    refine stAt_H l (i + 1) _ _ (fun j y ry hj hy => by have := h (j + 1) y ry (by simpa using hj) hy; rwa [show i + (j + 1) = i + 1 + j by omega] at this) ?_
    have hx := h 0 x rx rfl
    by_cases hd : rx.wl = some t
    · rw [← show S i = S' i from hx hd]
      split
      · simp only [Rc.wl, Option.map_eq_some_iff] at hd
        obtain ⟨⟨d, o⟩, h1, h2⟩ := hd
        simp only at h2
        subst h2
        simp [app, Eff.heap, h1]
      · exact h0
    · have hp : ∀ s : St, (app x rx s).H t = s.H t := by
        intro s
        simp only [app, Eff.heap]
        cases hxd : rx.f.hu with
        | none => rfl
        | some p =>
          obtain ⟨d, o⟩ := p
          have : t ≠ d := fun e => hd (by simp [Rc.wl, hxd, e])
          simp [upd, this]
      split <;> split <;> first | exact h0 | (simp only [hp]; exact h0)
end

section
variable (P : Program) (Θ : Tab) (nt base : Nat)

/-- What an operation does, wherever what it looks at is as it is here. -/
def opOK (o : Oper) (s : St) (r : Rc) : Prop :=
  ∀ s' : St, (∀ x ∈ o.op.operands, rdOp s'.T x = rdOp s.T x) → (∀ d ∈ r.rl, s'.H d = s.H d) → wpop P Θ nt base o (fun s'' => s'' = app o r s') s'

def stepOK (ops : Array Oper) (o : Oper) (s : St) (r : Rc) : Prop :=
  match o.guard with
  | none => opOK P Θ nt base o s r
  | some (j, want) => (∃ c, guardT (ops.toList.map (·.dst)) s.T j = .bool c ∧ (c = want → opOK P Θ nt base o s r) ∧ (c = !want → dstOK nt o.dst = true ∧ r.f = ⟨.tup [], none⟩)) ∨
    (guardT (ops.toList.map (·.dst)) s.T j = .tup [] ∧ dstOK nt o.dst = true ∧ r.f = ⟨.tup [], none⟩)

def Recs (ops : Array Oper) : List Oper → St → List Rc → Prop
  | [], _, rs => rs = []
  | o :: l, s, rs => ∃ r rs', rs = r :: rs' ∧ stepOK P Θ nt base ops o s r ∧ Recs ops l (app o r s) rs'
end

section
variable {P : Program} {Θ : Tab} {nt base : Nat} {ops : Array Oper}

theorem Recs.len : ∀ (l : List Oper) (s : St) (rs : List Rc), Recs P Θ nt base ops l s rs → rs.length = l.length
  | [], s, rs, h => by simp only [Recs] at h; simp [h]
  | o :: l, s, rs, h => by
    obtain ⟨r, rs', rfl, _, h'⟩ := h
    simp [Recs.len l _ rs' h']

/-- Each operation's step, at the state that those before it leave. -/
theorem Recs.get : ∀ (l : List Oper) (i : Nat) (s : St) (rs : List Rc), Recs P Θ nt base ops l s rs → ∀ k o r, l[k]? = some o → rs[k]? = some r →
    stepOK P Θ nt base ops o (stAt (fun j => decide (j < i + k)) (l.zip rs) i s) r
  | [], _, _, _, _, k, o, r, h, _ => by simp at h
  | o :: l, i, s, rs, h, k, o', r', ho, hr => by
    obtain ⟨r, rs', rfl, h1, h'⟩ := h
    have hnone : ∀ (l : List (Oper × Rc)) (i' : Nat) (s : St), stAt (fun j => decide (j < i)) l (i + i') s = s := by
      intro l
      induction l with
      | nil => intro i' s; rfl
      | cons p l ih =>
        intro i' s
        have : decide (i + i' < i) = false := by simp
        simp only [stAt, this, Bool.false_eq_true, if_false]
        exact ih (i' + 1) s
    cases k with
    | zero =>
      simp only [List.getElem?_cons_zero, Option.some.injEq] at ho hr
      subst ho
      subst hr
      have := hnone ((o :: l).zip (r :: rs')) 0 s
      simp only [Nat.add_zero] at this ⊢
      rw [this]
      exact h1
    | succ k =>
      have := Recs.get l (i + 1) (app o r s) rs' h' k o' r' (by simpa using ho) (by simpa using hr)
      have e : i + 1 + k = i + (k + 1) := by omega
      rw [e] at this
      have hlt : decide (i < i + (k + 1)) = true := by simp
      simp only [List.zip_cons_cons, stAt, hlt, if_true]
      exact this

/-- The state behind all. -/
def stEnd : List (Oper × Rc) → St → St
  | [], s => s
  | (o, r) :: l, s => stEnd l (app o r s)

theorem stAt_all {S : Nat → Bool} : ∀ (l : List (Oper × Rc)) (i : Nat) (s : St), (∀ j, j < l.length → S (i + j) = true) → stAt S l i s = stEnd l s
  | [], _, _, _ => rfl
  | (o, r) :: l, i, s, h => by
    have h0 : S i = true := h 0 (by simp)
    simp only [stAt, h0, if_true, stEnd]
    exact stAt_all l (i + 1) _ fun j hj => by have := h (j + 1) (by simpa using hj); rwa [show i + (j + 1) = i + 1 + j by omega] at this

theorem stAt_none {S : Nat → Bool} : ∀ (l : List (Oper × Rc)) (i : Nat) (s : St), (∀ j, j < l.length → S (i + j) = false) → stAt S l i s = s
  | [], _, _, _ => rfl
  | (o, r) :: l, i, s, h => by
    have h0 : S i = false := h 0 (by simp)
    simp only [stAt, h0, Bool.false_eq_true, if_false]
    exact stAt_none l (i + 1) _ fun j hj => by have := h (j + 1) (by simpa using hj); rwa [show i + (j + 1) = i + 1 + j by omega] at this

def fp (r : Rc) : List Nat × Option Nat := (r.rl, r.wl)

structure Inv (ops : Array Oper) (listed : Array Bool) : Prop where
  sz : listed.size = ops.size
  closed : ∀ (j : Nat) o, ops[j]? = some o → listed.getD j false = true → ∀ e ∈ o.after, Region.binds .any e = true → listed.getD e.on false = true

theorem ready_mem {listed : Array Bool} {i : Nat} : i ∈ Region.ready .any ops listed ↔ ∃ o, ops[i]? = some o ∧ listed.getD i true = false ∧ ∀ e ∈ o.after, Region.binds .any e = true → listed.getD e.on false = true := by
  unfold Region.ready
  simp only [List.mem_filter, List.mem_range, Bool.and_eq_true, Bool.not_eq_true']
  constructor
  · rintro ⟨h1, h2, h3⟩
    have ho : ops[i]? = some ops[i] := by simp [h1]
    rw [ho] at h3
    refine ⟨_, ho, h2, fun e he hb => ?_⟩
    simp only [Option.map_some, Option.getD_some, Array.all_eq_true', Bool.or_eq_true, Bool.not_eq_true'] at h3
    rcases h3 e he with h | h
    · rw [hb] at h; simp at h
    · exact h
  · rintro ⟨o, ho, h2, h3⟩
    have hi : i < ops.size := by
      rcases Nat.lt_or_ge i ops.size with h | h
      · exact h
      · rw [Array.getElem?_eq_none h] at ho; simp at ho
    refine ⟨hi, h2, ?_⟩
    rw [ho]
    simp only [Option.map_some, Option.getD_some, Array.all_eq_true', Bool.or_eq_true, Bool.not_eq_true']
    intro e he
    by_cases hb : Region.binds .any e = true
    · exact .inr (h3 e he hb)
    · exact .inl (by simpa using hb)

theorem wanted_none {o : Oper} {y : Nat → Option Bool} (h : o.guard = none) : Region.wanted o y = true := by simp [Region.wanted, h]

theorem guardT_at {s s' : St} {o : Oper} {j : Nat} {want : Bool} (hg : o.guard = some (j, want)) (h : ∀ t ∈ o.looksAt ops, s'.T t = s.T t) {x : Tr} (hx : x ≠ .any) (hc : guardT (ops.toList.map (·.dst)) s.T j = x) : guardT (ops.toList.map (·.dst)) s'.T j = x := by
  unfold guardT at hc ⊢
  split at hc
  · rename_i d hd
    have : d ∈ o.looksAt ops := by
      unfold Oper.looksAt
      rw [hg]
      rw [List.getElem?_map, Array.getElem?_toList] at hd
      refine List.mem_append_right _ ?_
      cases hq : ops[j]? with
      | none => rw [hq] at hd; simp at hd
      | some o' => rw [hq] at hd; simp only [Option.map_some, Option.some.injEq] at hd; simp [hq, hd]
    simp only [h d this, hc]
  · exact absurd hc.symm hx

theorem rdOp_at {s s' : St} {o : Oper} (h : ∀ t ∈ o.looksAt ops, s'.T t = s.T t) : ∀ x ∈ o.op.operands, rdOp s'.T x = rdOp s.T x := by
  intro x hx
  cases x with
  | tmp t =>
    refine h t ?_
    unfold Oper.looksAt
    refine List.mem_append_left _ ?_
    rw [List.mem_filterMap]
    exact ⟨.tmp t, by simpa using hx, rfl⟩
  | const v => rfl
  | global g => rfl
  | func f => rfl

theorem set_getD (listed : Array Bool) (i j : Nat) (hi : i < listed.size) : (listed.setIfInBounds i true).getD j false = (listed.getD j false || decide (j = i)) := by
  simp only [Array.getD_eq_getD_getElem?, Array.getElem?_setIfInBounds]
  by_cases h : i = j
  · subst h; simp [hi]
  · have : ¬ j = i := fun e => h e.symm
    simp [h, this]

theorem getD_tf (listed : Array Bool) (i : Nat) (h : i < listed.size) : listed.getD i true = listed.getD i false := by
  simp [Array.getD_eq_getD_getElem?, h]

variable (hΘ : TabOK P Θ)

include hΘ in
theorem draw_sound {s0 : St} {rs : List Rc} (hrec : Recs P Θ nt base ops ops.toList s0 rs) (hc : compatB ops (rs.map fp) = true) {M0 : Mem} {Q : Exit → Act → World → Prop}
    (hQ : ∀ M a, Gam M0 nt (stEnd (ops.toList.zip rs) s0) M a → Q .normal a M.w) :
    ∀ (fuel : Nat) (listed : Array Bool) (M : Mem) (a : Act), Inv ops listed → listed.toList.count false ≤ fuel → Gam M0 nt (stAt (fun j => listed.getD j false) (ops.toList.zip rs) 0 s0) M a →
      wpAny P .any ops Q fuel listed a M.w := by
  have hlen := Recs.len _ _ _ hrec
  have hzl : (ops.toList.zip rs).length = ops.size := by simp [hlen]
  have hzget : ∀ (k : Nat) o r, (ops.toList.zip rs)[k]? = some (o, r) ↔ ops[k]? = some o ∧ rs[k]? = some r := by
    intro k o r
    rw [List.getElem?_zip_eq_some, Array.getElem?_toList]
  have hz2 : ∀ (k : Nat) o r, ops[k]? = some o → rs[k]? = some r → (ops.toList.zip (rs.map fp))[k]? = some (o, fp r) := by
    intro k o r h1 h2
    rw [List.getElem?_zip_eq_some, Array.getElem?_toList, List.getElem?_map, h2]
    exact ⟨h1, rfl⟩
  have hcomp : ∀ (k : Nat) y ry, ops[k]? = some y → rs[k]? = some ry → backs y k = true ∧ ∀ (i : Nat) x rx, i < k → ops[i]? = some x → rs[i]? = some rx → edgeTo y i = true ∨ apartO ops x y (fp rx) (fp ry) = true := by
    intro k y ry h1 h2
    have := compatL_get _ [] 0 rfl hc k y (fp ry) (hz2 k y ry h1 h2)
    simp only [Nat.zero_add, List.nil_append] at this
    exact ⟨this.1, fun i x rx hi h3 h4 => this.2 i x (fp rx) hi (hz2 i x rx h3 h4)⟩
  have hrs : ∀ (k : Nat) o, ops[k]? = some o → ∃ r, rs[k]? = some r := by
    intro k o ho
    have hk : k < ops.size := by
      rcases Nat.lt_or_ge k ops.size with h | h
      · exact h
      · rw [Array.getElem?_eq_none h] at ho; simp at ho
    have : k < rs.length := by rw [hlen]; simpa using hk
    exact ⟨rs[k], by simp [this]⟩
  have hedge : ∀ {y : Oper} {i : Nat}, edgeTo y i = true → ∃ e ∈ y.after, Region.binds .any e = true ∧ e.on = i := by
    intro y i h
    simp only [edgeTo, Array.any_eq_true, Bool.and_eq_true, beq_iff_eq] at h
    obtain ⟨q, hq, h1, h2⟩ := h
    exact ⟨_, Array.getElem_mem hq, h1, h2⟩
  -- all are listed once none is ready
  have hdone : ∀ listed : Array Bool, Inv ops listed → Region.ready .any ops listed = [] → ∀ k, k < ops.size → listed.getD k false = true := by
    intro listed hI hr k
    induction k using Nat.strongRecOn with
    | ind k ih =>
      intro hk
      have ho : ops[k]? = some ops[k] := by simp [hk]
      obtain ⟨r, hr'⟩ := hrs k _ ho
      have hb := (hcomp k _ r ho hr').1
      cases hv : listed.getD k false with
      | true => rfl
      | false =>
        have : k ∈ Region.ready .any ops listed := ready_mem.2 ⟨_, ho, by rw [getD_tf _ _ (by rw [hI.sz]; exact hk)]; exact hv, fun e he hbd => by
          simp only [backs, Array.all_eq_true', Bool.or_eq_true, Bool.not_eq_true', decide_eq_true_eq] at hb
          rcases hb e he with h | h
          · rw [hbd] at h; simp at h
          · exact ih _ h (by omega)⟩
        rw [hr] at this
        simp at this
  have hend : ∀ (listed : Array Bool) (M : Mem) (a : Act), Inv ops listed → Region.ready .any ops listed = [] → Gam M0 nt (stAt (fun j => listed.getD j false) (ops.toList.zip rs) 0 s0) M a → Q .normal a M.w := by
    intro listed M a hI hr g
    refine hQ M a ?_
    rw [stAt_all] at g
    · exact g
    · intro j hj
      rw [Nat.zero_add]
      exact hdone listed hI hr j (by rw [hzl] at hj; exact hj)
  have hzero : ∀ listed : Array Bool, Inv ops listed → listed.toList.count false = 0 → Region.ready .any ops listed = [] := by
    intro listed hI h0
    rw [List.eq_nil_iff_forall_not_mem]
    intro i hi
    obtain ⟨o, ho, h1, _⟩ := ready_mem.1 hi
    have hk : i < listed.size := by
      rw [hI.sz]
      rcases Nat.lt_or_ge i ops.size with h | h
      · exact h
      · rw [Array.getElem?_eq_none h] at ho; simp at ho
    rw [List.count_eq_zero] at h0
    refine h0 ?_
    rw [getD_tf _ _ hk] at h1
    simp only [Array.getD_eq_getD_getElem?, hk, Array.getElem?_eq_getElem, Option.getD_some] at h1
    rw [← h1]
    simp
  intro fuel
  induction fuel with
  | zero =>
    intro listed M a hI h0 g
    have hr := hzero listed hI (by omega)
    exact ⟨hr, hend listed M a hI hr g⟩
  | succ fuel ih =>
    intro listed M a hI hcnt g
    refine ⟨fun hr => hend listed M a hI hr g, fun k hk => ?_⟩
    obtain ⟨o, ho, hk0, hkp⟩ := ready_mem.1 hk
    obtain ⟨r, hr⟩ := hrs k o ho
    have hksz : k < listed.size := by
      rw [hI.sz]
      rcases Nat.lt_or_ge k ops.size with h | h
      · exact h
      · rw [Array.getElem?_eq_none h] at ho; simp at ho
    rw [getD_tf _ _ hksz] at hk0
    let S : Nat → Bool := fun j => listed.getD j false
    have hstep := Recs.get _ 0 _ _ hrec k o r (by rw [Array.getElem?_toList]; exact ho) hr
    rw [Nat.zero_add] at hstep
    -- who may meet it
    have hpair : ∀ (j : Nat) x rx, ops[j]? = some x → rs[j]? = some rx → (S j = decide (j < k)) ∨ (j < k ∧ apartO ops x o (fp rx) (fp r) = true) ∨ (k < j ∧ apartO ops o x (fp r) (fp rx) = true) := by
      intro j x rx hx hrx
      rcases Nat.lt_trichotomy j k with h | h | h
      · rcases (hcomp k o r ho hr).2 j x rx h hx hrx with he | he
        · obtain ⟨e, hm, hb, rfl⟩ := hedge he
          exact .inl (by simp only [S, hkp e hm hb]; simp [h])
        · exact .inr (.inl ⟨h, he⟩)
      · subst h
        exact .inl (by show listed.getD j false = _; rw [hk0]; simp)
      · rcases (hcomp j x rx hx hrx).2 k o r h ho hr with he | he
        · obtain ⟨e, hm, hb, rfl⟩ := hedge he
          refine .inl ?_
          have hn : decide (j < e.on) = false := by simp; omega
          rw [hn]
          cases hv : S j with
          | false => rfl
          | true =>
            have := hI.closed j x hx hv e hm hb
            rw [hk0] at this
            simp at this
        · exact .inr (.inr ⟨h, he⟩)
    have hT : ∀ t ∈ o.looksAt ops, (stAt S (ops.toList.zip rs) 0 s0).T t = (stAt (fun j => decide (j < k)) (ops.toList.zip rs) 0 s0).T t := by
      intro t ht
      refine stAt_T _ 0 s0 s0 (fun j x rx hj hx => ?_) rfl
      rw [Nat.zero_add]
      obtain ⟨hj1, hj2⟩ := (hzget j x rx).1 hj
      rcases hpair j x rx hj1 hj2 with h | ⟨h, h'⟩ | ⟨h, h'⟩
      · exact h
      · simp only [apartO, Bool.and_eq_true] at h'
        exact absurd ht ((Oper.apart_spec h'.1.1).1 t hx)
      · simp only [apartO, Bool.and_eq_true] at h'
        exact absurd ht ((Oper.apart_spec h'.1.1).2.2 t hx)
    have hH : ∀ d ∈ r.rl, (stAt S (ops.toList.zip rs) 0 s0).H d = (stAt (fun j => decide (j < k)) (ops.toList.zip rs) 0 s0).H d := by
      intro d hd
      refine stAt_H _ 0 s0 s0 (fun j x rx hj hx => ?_) rfl
      rw [Nat.zero_add]
      obtain ⟨hj1, hj2⟩ := (hzget j x rx).1 hj
      rcases hpair j x rx hj1 hj2 with h | ⟨h, h'⟩ | ⟨h, h'⟩
      · exact h
      · simp only [apartO, fp, hx, Bool.and_eq_true, Bool.not_eq_true', List.contains_eq_mem, decide_eq_false_iff_not] at h'
        exact absurd hd h'.1.2.1
      · simp only [apartO, fp, hx, Bool.and_eq_true, Bool.not_eq_true', List.contains_eq_mem, decide_eq_false_iff_not] at h'
        exact absurd hd h'.2
    have hnext : ∀ (M' : Mem) (a' : Act), Gam M0 nt (app o r (stAt S (ops.toList.zip rs) 0 s0)) M' a' → wpAny P .any ops Q fuel (listed.setIfInBounds k true) a' M'.w := by
      intro M' a' g'
      have hS : (fun j => (listed.setIfInBounds k true).getD j false) = fun j => S j || decide (j = k) := by
        funext j
        exact set_getD listed k j hksz
      refine ih _ M' a' ⟨by simp [hI.sz], fun j x hx hj e he hb => ?_⟩ ?_ ?_
      · rw [set_getD _ _ _ hksz, Bool.or_eq_true] at hj ⊢
        rcases hj with hj | hj
        · exact .inl (hI.closed j x hx hj e he hb)
        · simp only [decide_eq_true_eq] at hj
          subst hj
          rw [ho] at hx
          cases hx
          exact .inl (hkp e he hb)
      · rw [Array.toList_setIfInBounds]
        have hlt : k < listed.toList.length := by simpa using hksz
        have hf : listed.toList[k] = false := by
          simpa [Array.getD_eq_getD_getElem?, hksz] using hk0
        rw [List.count_set hlt, hf]
        show List.count false listed.toList - 1 + 0 ≤ fuel
        omega
      · have hins := stAt_insert (S := S) (k := k) hk0 (ops.toList.zip rs) 0 s0 o r (Nat.zero_le _) (by rw [Nat.sub_zero]; exact (hzget k o r).2 ⟨ho, hr⟩) (by
          intro j x rx hj hkj hSj
          rw [Nat.zero_add] at hkj hSj
          obtain ⟨hj1, hj2⟩ := (hzget j x rx).1 hj
          rcases hpair j x rx hj1 hj2 with h | ⟨h, h'⟩ | ⟨h, h'⟩
          · rw [hSj] at h
            have : j < k := by simpa using h.symm
            omega
          · omega
          · exact h')
        rw [hS, hins]
        exact g'
    have hop : opOK P Θ nt base o (stAt (fun j => decide (j < k)) (ops.toList.zip rs) 0 s0) r → ∀ {K : Act → World → Prop}, (∀ (M' : Mem) (a' : Act), Gam M0 nt (app o r (stAt S (ops.toList.zip rs) 0 s0)) M' a' → K a' M'.w) → o.wp P a M.w K Q := by
      intro h K hK
      refine wpop_sound hΘ (h _ (rdOp_at hT) hH) g ?_
      rintro a' w' ⟨s', M', rfl, rfl, g'⟩
      exact hK M' a' g'
    unfold wpOp
    rw [ho]
    simp only []
    unfold stepOK at hstep
    split at hstep
    · rename_i hg
      rw [if_pos (wanted_none hg)]
      exact .inl (hop hstep hnext)
    · rename_i j want hg
      have skip : dstOK nt o.dst = true → r.f = ⟨.tup [], none⟩ → wpAny P .any ops Q fuel (listed.setIfInBounds k true) (a.put o.dst undef) M.w := by
        intro hd hf
        refine hnext M _ ?_
        have := g.put g.ok g.fr (Mono.refl M) hd (VR.skip M)
        rw [g.hH] at this
        simp only [app, hf]
        exact this
      rcases hstep with ⟨c, hc, hc1, hc2⟩ | ⟨hc, hd, hf⟩
      · have hy := yielded_guard g ops (guardT_at hg hT (by simp) hc)
        by_cases hcw : c = want
        · rw [if_pos (by simp [Region.wanted, hg, hy, hcw])]
          exact .inl (hop (hc1 hcw) hnext)
        · rw [if_neg (by simp [Region.wanted, hg, hy, hcw])]
          obtain ⟨hd, hf⟩ := hc2 (by cases c <;> cases want <;> simp_all)
          exact skip hd hf
      · have hy := yielded_skip g ops (guardT_at hg hT (by simp) hc)
        rw [if_neg (by simp [Region.wanted, hg, hy])]
        exact skip hd hf

/-- The same memory, a draw counted. -/
def Mem.drawn (M : Mem) (n : Nat) : Mem := ⟨{ M.w with drawn := n }, M.Im, M.β, M.H⟩

theorem Mono.drawn (M : Mem) (n : Nat) : Mono M (M.drawn n) := ⟨fun _ h => h, fun _ _ => rfl, fun _ => Nat.le_refl _, fun _ _ => ⟨rfl, fun _ _ xs h => ⟨xs, h⟩⟩⟩

theorem Gam.drawn {M0 : Mem} {s : St} {M : Mem} {a : Act} (g : Gam M0 nt s M a) (n : Nat) : Gam M0 nt s (M.drawn n) a where
  hH := g.hH
  ok := ⟨fun d => by
      by_cases hl : Live M d
      · exact (g.ok.objs d).mono (Mono.drawn M n) rfl (fun b K hb _ => rfl)
      · unfold Live at hl
        simp only [ne_eq, Classical.not_not] at hl
        unfold ObjR
        simp only [Mem.drawn, hl], g.ok.inj, g.ok.sep, g.ok.lt⟩
  fr := ⟨g.fr.os, g.fr.tape, g.fr.output, g.fr.size, g.fr.blk, g.fr.own, g.fr.im0, g.fr.im1⟩
  mono := g.mono.trans (Mono.drawn M n)
  tm t := (g.tm t).mono (Mono.drawn M n)
  sz := g.sz
  df := g.df

include hΘ in
/-- A region whose order is drawn. -/
theorem WP.draw (hm : P.follows .mixedOrders = true) {id : Nat} {s0 : St} {rs : List Rc} (hrec : Recs P Θ nt base ops ops.toList s0 rs) (hc : compatB ops (rs.map fp) = true) {K : Exit → St → Prop} (hK : K .normal (stEnd (ops.toList.zip rs) s0)) :
    WP P nt (.region id ops true) K s0 := by
  intro M0 M a g
  refine wp_region_any hm ?_
  refine draw_sound hΘ hrec hc (M0 := M0) (fun M' a' g' => ⟨_, M', rfl, hK, g'⟩) ops.size (Array.replicate ops.size false) (M.drawn (M.w.drawn + 1)) a ⟨by simp, fun j o hj hl => ?_⟩ ?_ ?_
  · simp only [Array.getD_eq_getD_getElem?, Array.getElem?_replicate] at hl
    split at hl <;> simp at hl
  · exact Nat.le_trans List.count_le_length (by simp)
  · rw [stAt_none]
    · exact g.drawn _
    · intro j _
      simp only [Array.getD_eq_getD_getElem?, Array.getElem?_replicate]
      split <;> simp

end
end Go.Proofs.Ytnonimnhninafaa.Ab
