/- Typed values: what the typed calculus knows of a tree. -/
import Derived.Test.YtnonimnhninafaaAbReg
namespace Go.Proofs.Ytnonimnhninafaa.Ab
open Go

abbrev TV := (c : Ty) × den c

def tsz : Ty → Nat
  | .arr n c => tsz c * n
  | .st s => ssz s
  | .int _ => 1
  | .bool => 1
  | .str => 1
  | .sl _ => 1

def hparts : (cs : List Ty) → HL cs → List TV
  | [], _ => []
  | c :: cs, h => ⟨c, h.1⟩ :: hparts cs h.2
def parts (s : SId) (x : SDen s) : List TV := hparts (tys s) (toH s x)

/-- A tree shows a typed value. -/
inductive TVR : (c : Ty) → den c → Tr → Prop
  | int (k : IntKind) (n : Int) : TVR (.int k) n (.int k n)
  | bool (b : Bool) : TVR .bool b (.bool b)
  | str (s : ByteArray) : TVR .str s (.str s)
  | nil (c : Ty) : TVR (.sl c) ([] : List (den c)) .nils
  | sl {c : Ty} (xs : List (den c)) (ts : List Tr) (hl : ts.length = xs.length) (h : ∀ (i : Nat) x t, xs[i]? = some x → ts[i]? = some t → TVR c x t) : TVR (.sl c) xs (.sl (tsz c) ts)
  | arr {c : Ty} {n : Nat} (xs : Vector (den c) n) (ts : List Tr) (hl : ts.length = n) (h : ∀ (i : Nat) x t, xs.toList[i]? = some x → ts[i]? = some t → TVR c x t) : TVR (.arr n c) xs (.arr (tsz c) ts)
  | st (s : SId) (x : SDen s) (ts : List Tr) (hl : ts.length = (parts s x).length) (h : ∀ (i : Nat) p t, (parts s x)[i]? = some p → ts[i]? = some t → TVR p.1 p.2 t) : TVR (.st s) x (.node (ssz s) (soffs s) ts)

inductive V where
  | any
  | skip
  | int (k : IntKind) (n : Int)
  | bool (b : Bool)
  | kn (b : Bool)
  | str (s : ByteArray)
  | nilp
  | nils
  | nilf
  | tv (c : Ty) (x : den c)
  | tp (c : Ty) (x : den c)
  | vptr (d g : Nat) (p : List Nat) (off : Nat)
  | ownA (d g n : Nat)
  | clo (f : FuncId) (vs : List V)
  | tup (vs : List V)
  | node (s : SId) (vs : List V)

instance : Inhabited V := ⟨.any⟩

inductive VObj where
  | unk
  | cells (v : V)
  | rowT (e : TypeId) (c : Ty) (xs : List (den c))
  | rowV (e : TypeId) (sz : Nat) (vs : List V)

def V.of : (c : Ty) → den c → V
  | .int k, n => .int k n
  | .bool, b => .bool b
  | .str, s => .str s
  | .sl c, x => .tv (.sl c) x
  | .arr n c, x => .tv (.arr n c) x
  | .st s, x => .tv (.st s) x

/-- A tree shows what a value says. -/
inductive FlatR (cur : Nat → Nat) (H : Heap) : V → Tr → Prop
  | any (t : Tr) : FlatR cur H .any t
  | skip : FlatR cur H .skip (.tup [])
  | int (k : IntKind) (n : Int) : FlatR cur H (.int k n) (.int k n)
  | bool (b : Bool) : FlatR cur H (.bool b) (.bool b)
  | kn (b : Bool) : FlatR cur H (.kn b) (.bool b)
  | str (s : ByteArray) : FlatR cur H (.str s) (.str s)
  | nilp : FlatR cur H .nilp .nilp
  | nils : FlatR cur H .nils .nils
  | nilf : FlatR cur H .nilf .nilf
  | tv {c : Ty} {x : den c} {t : Tr} (h : TVR c x t) : FlatR cur H (.tv c x) t
  | tp {c : Ty} {x : den c} {t : Tr} (h : TVR c x t) : FlatR cur H (.tp c x) (.iptr t)
  | vptr {d g : Nat} {p : List Nat} {off : Nat} {t : Tr} (hg : g ≤ cur d) (h : cur d = g → t = .ptr d (H d).1 p off) : FlatR cur H (.vptr d g p off) t
  | ownA {d g n : Nat} {t : Tr} (hg : g ≤ cur d) (h : cur d = g → t = .own d (H d).1 0 n ∧ ∀ e sz ts, (H d).2 = .row e sz ts → ts.length = n) : FlatR cur H (.ownA d g n) t
  | clo {f : FuncId} {vs : List V} {ts : List Tr} (hl : ts.length = vs.length) (h : ∀ (i : Nat) v t, vs[i]? = some v → ts[i]? = some t → FlatR cur H v t) : FlatR cur H (.clo f vs) (.clo f ts)
  | tup {vs : List V} {ts : List Tr} (hl : ts.length = vs.length) (h : ∀ (i : Nat) v t, vs[i]? = some v → ts[i]? = some t → FlatR cur H v t) : FlatR cur H (.tup vs) (.tup ts)
  | node {s : SId} {vs : List V} {ts : List Tr} (hl : ts.length = vs.length) (h : ∀ (i : Nat) v t, vs[i]? = some v → ts[i]? = some t → FlatR cur H v t) : FlatR cur H (.node s vs) (.node (ssz s) (soffs s) ts)

def FlatL (cur : Nat → Nat) (H : Heap) (vs : List V) (ts : List Tr) : Prop := ts.length = vs.length ∧ ∀ (i : Nat) v t, vs[i]? = some v → ts[i]? = some t → FlatR cur H v t
def TVL (c : Ty) (xs : List (den c)) (ts : List Tr) : Prop := ts.length = xs.length ∧ ∀ (i : Nat) x t, xs[i]? = some x → ts[i]? = some t → TVR c x t

def ObjF (cur : Nat → Nat) (H : Heap) : VObj → AObj → Prop
  | .unk, _ => True
  | .cells v, o => ∃ t, o = .cells t ∧ FlatR cur H v t
  | .rowT e c xs, o => ∃ ts, o = .row e (tsz c) ts ∧ TVL c xs ts
  | .rowV e sz vs, o => ∃ ts, o = .row e sz ts ∧ FlatL cur H vs ts

section
variable {cur cur' : Nat → Nat} {H H' : Heap}

theorem FlatR.of : ∀ {c : Ty} {x : den c} {t : Tr}, TVR c x t → FlatR cur H (V.of c x) t := by
  intro c x t h
  cases h with
  | int k n => exact .int k n
  | bool b => exact .bool b
  | str s => exact .str s
  | nil c => exact .tv (.nil c)
  | sl xs ts hl h => exact .tv (.sl xs ts hl h)
  | arr xs ts hl h => exact .tv (.arr xs ts hl h)
  | st s x ts hl h => exact .tv (.st s x ts hl h)

/-- What a step of the memory keeps. -/
structure Keeps (cur cur' : Nat → Nat) (H H' : Heap) : Prop where
  le : ∀ d, cur d ≤ cur' d
  same : ∀ d, cur' d = cur d → (H' d).1 = (H d).1 ∧ ∀ e sz ts, (H' d).2 = .row e sz ts → ∃ e' sz' ts', (H d).2 = .row e' sz' ts' ∧ ts'.length = ts.length

theorem Keeps.refl (cur : Nat → Nat) (H : Heap) : Keeps cur cur H H := ⟨fun _ => Nat.le_refl _, fun _ _ => ⟨rfl, fun e sz ts h => ⟨e, sz, ts, h, rfl⟩⟩⟩

theorem FlatR.keep (k : Keeps cur cur' H H') {v : V} {t : Tr} (h : FlatR cur H v t) : FlatR cur' H' v t := by
  induction h with
  | any t => exact .any t
  | skip => exact .skip
  | int k n => exact .int k n
  | bool b => exact .bool b
  | kn b => exact .kn b
  | str s => exact .str s
  | nilp => exact .nilp
  | nils => exact .nils
  | nilf => exact .nilf
  | tv h => exact .tv h
  | tp h => exact .tp h
  | @vptr d g p off t hg h =>
    refine .vptr (Nat.le_trans hg (k.le d)) fun e => ?_
    have h1 := k.le d
    have e1 : cur' d = cur d := by omega
    rw [h (by omega), (k.same d e1).1]
  | @ownA d g n t hg h =>
    refine .ownA (Nat.le_trans hg (k.le d)) fun e => ?_
    have h1 := k.le d
    have e1 : cur' d = cur d := by omega
    obtain ⟨h2, h3⟩ := h (by omega)
    obtain ⟨k1, k2⟩ := k.same d e1
    refine ⟨by rw [h2, k1], fun e sz ts hr => ?_⟩
    obtain ⟨e', sz', ts', hr', hl⟩ := k2 e sz ts hr
    rw [← hl]
    exact h3 _ _ _ hr'
  | clo hl h ih => exact .clo hl ih
  | tup hl h ih => exact .tup hl ih
  | node hl h ih => exact .node hl ih

theorem ObjF.keep (k : Keeps cur cur' H H') {o : VObj} {a : AObj} (h : ObjF cur H o a) : ObjF cur' H' o a := by
  cases o with
  | unk => trivial
  | cells v => obtain ⟨t, h1, h2⟩ := h; exact ⟨t, h1, h2.keep k⟩
  | rowT e c xs => exact h
  | rowV e sz vs => obtain ⟨ts, h1, h2, h3⟩ := h; exact ⟨ts, h1, h2, fun i v t hv ht => (h3 i v t hv ht).keep k⟩

/-- How many cells a value takes. -/
def vsz : V → Nat
  | .tv c _ => tsz c
  | .node s _ => ssz s
  | .int _ _ => 1
  | .bool _ => 1
  | .str _ => 1
  | .nilp => 1
  | .nils => 1
  | .nilf => 1
  | .tp _ _ => 1
  | .vptr _ _ _ _ => 1
  | .ownA _ _ _ => 1
  | .clo _ _ => 1
  | .any => 0
  | .kn _ => 0
  | .skip => 0
  | .tup _ => 0
def tAgg : Ty → Bool
  | .arr _ _ => true
  | .st _ => true
  | .int _ => false
  | .bool => false
  | .str => false
  | .sl _ => false
def vAgg : V → Bool
  | .tv c _ => tAgg c
  | .node _ _ => true
  | _ => false
/-- Is a value one that may lie in a cell (and is it still told)? -/
def vOk (cur : Nat → Nat) : V → Bool
  | .any => false
  | .kn _ => false
  | .skip => false
  | .tup _ => false
  | .vptr d g _ _ => Nat.beq (cur d) g
  | .ownA d g _ => Nat.beq (cur d) g
  | .tv _ _ => true
  | .node _ _ => true
  | .int _ _ => true
  | .bool _ => true
  | .str _ => true
  | .nilp => true
  | .nils => true
  | .nilf => true
  | .tp _ _ => true
  | .clo _ _ => true

theorem TVR.shape {c : Ty} {x : den c} {t : Tr} (h : TVR c x t) : t.size = tsz c ∧ t.isAgg = tAgg c ∧ t.good = true := by
  cases h with
  | int => exact ⟨rfl, rfl, rfl⟩
  | bool => exact ⟨rfl, rfl, rfl⟩
  | str => exact ⟨rfl, rfl, rfl⟩
  | nil => exact ⟨rfl, rfl, rfl⟩
  | sl => exact ⟨rfl, rfl, rfl⟩
  | arr xs ts hl h => exact ⟨by simp [Tr.size, tsz, hl], rfl, rfl⟩
  | st => exact ⟨rfl, rfl, rfl⟩

theorem FlatR.shape {v : V} {t : Tr} (h : FlatR cur H v t) (ho : vOk cur v = true) : t.size = vsz v ∧ t.isAgg = vAgg v ∧ t.good = true := by
  cases h with
  | any => simp [vOk] at ho
  | kn => simp [vOk] at ho
  | skip => simp [vOk] at ho
  | tup => simp [vOk] at ho
  | tv h => exact h.shape
  | vptr hg h => rw [h (Nat.eq_of_beq_eq_true ho)]; exact ⟨rfl, rfl, rfl⟩
  | ownA hg h => rw [(h (Nat.eq_of_beq_eq_true ho)).1]; exact ⟨rfl, rfl, rfl⟩
  | _ => exact ⟨rfl, rfl, rfl⟩

/-- A part of a value: whether it is there, where it lies, what it is. -/
def kid (v : V) (i : Nat) : Option (Bool × Nat × V) :=
  match v with
  | .tv (.st s) x => match (parts s x)[i]?, (soffs s)[i]? with
    | some p, some o => some (true, o, V.of p.1 p.2)
    | _, _ => none
  | .tv (.arr n c) x => some (Nat.blt i n, i * tsz c, V.of c (x.toList.getD i (dflt c)))
  | .node s vs => match vs[i]?, (soffs s)[i]? with
    | some u, some o => some (true, o, u)
    | _, _ => none
  | _ => none

theorem atF_node {acc i : Nat} {p : List Nat} {sz : Nat} {offs : List Nat} {ts : List Tr} {o : Nat} {x : Tr} (ho : offs[i]? = some o) (hx : ts[i]? = some x) : Tr.atF acc (i :: p) (.node sz offs ts) = Tr.atF (acc + o) p x := by
  simp only [Tr.atF, ho, hx]
theorem atF_arr {acc i : Nat} {p : List Nat} {sz : Nat} {ts : List Tr} {x : Tr} (hx : ts[i]? = some x) : Tr.atF acc (i :: p) (.arr sz ts) = Tr.atF (acc + i * sz) p x := by
  simp only [Tr.atF, hx]

theorem get_of_len {α β : Type} {xs : List α} {ts : List β} (hl : ts.length = xs.length) {i : Nat} {x : α} (hx : xs[i]? = some x) : ∃ t, ts[i]? = some t := by
  have : i < xs.length := (List.getElem?_eq_some_iff.1 hx).1
  exact ⟨ts[i]'(by omega), by simp⟩

theorem getD_some {α : Type} {l : List α} {i : Nat} {d : α} (h : i < l.length) : l[i]? = some (l.getD i d) := by
  simp [List.getD, h]
theorem vlen {c : Ty} {n : Nat} (x : den (.arr n c)) : (Vector.toList (n := n) x).length = n := Vector.length_toList

theorem kid_sound {v : V} {t : Tr} (h : FlatR cur H v t) {i : Nat} {o : Nat} {u : V} (hk : kid v i = some (true, o, u)) :
    ∃ u', FlatR cur H u u' ∧ ∀ acc p, Tr.atF acc (i :: p) t = Tr.atF (acc + o) p u' := by
  unfold kid at hk
  split at hk
  · rename_i s x
    split at hk
    · rename_i p o' hp ho
      simp only [Option.some.injEq, Prod.mk.injEq, true_and] at hk
      obtain ⟨rfl, rfl⟩ := hk
      cases h with
      | tv h =>
        cases h with
        | st s x ts hl h =>
          obtain ⟨t, ht⟩ := get_of_len hl hp
          exact ⟨t, .of (h i p t hp ht), fun acc q => atF_node ho ht⟩
    · cases hk
  · rename_i n c x
    simp only [Option.some.injEq, Prod.mk.injEq] at hk
    obtain ⟨hi, rfl, rfl⟩ := hk
    have hi : i < n := by simpa [Nat.blt_eq] using hi
    cases h with
    | tv h =>
      cases h with
      | arr xs ts hl h =>
        have hx := getD_some (l := Vector.toList (n := n) x) (d := dflt c) (i := i) (by rw [vlen]; exact hi)
        obtain ⟨t, ht⟩ := get_of_len (ts := ts) (hl.trans (vlen x).symm) hx
        exact ⟨t, .of (h i _ t hx ht), fun acc q => atF_arr ht⟩
  · rename_i s vs
    split at hk
    · rename_i u' o' hu ho
      simp only [Option.some.injEq, Prod.mk.injEq, true_and] at hk
      obtain ⟨rfl, rfl⟩ := hk
      cases h with
      | node hl h =>
        obtain ⟨t, ht⟩ := get_of_len hl hu
        exact ⟨t, h i _ t hu ht, fun acc q => atF_node ho ht⟩
    · cases hk
  · cases hk

def vAt : V → List Nat → Nat → Option (Bool × Nat × V)
  | v, [], acc => some (true, acc, v)
  | v, i :: p, acc => match kid v i with
    | some (g, o, u) => match vAt u p (acc + o) with
      | some (g', o', w) => some (g && g', o', w)
      | none => none
    | none => none

theorem vAt_sound : ∀ (p : List Nat) {v : V} {t : Tr} (acc : Nat), FlatR cur H v t → ∀ {o : Nat} {u : V}, vAt v p acc = some (true, o, u) → ∃ u', Tr.atF acc p t = some (o, u') ∧ FlatR cur H u u'
  | [], v, t, acc, h, o, u, hv => by
    simp only [vAt, Option.some.injEq, Prod.mk.injEq, true_and] at hv
    obtain ⟨rfl, rfl⟩ := hv
    exact ⟨t, rfl, h⟩
  | i :: p, v, t, acc, h, o, u, hv => by
    simp only [vAt] at hv
    split at hv
    · rename_i g o1 u1 hk
      split at hv
      · rename_i g' o' w hw
        simp only [Option.some.injEq, Prod.mk.injEq, Bool.and_eq_true] at hv
        obtain ⟨⟨rfl, rfl⟩, rfl, rfl⟩ := hv
        obtain ⟨u', hu', hat⟩ := kid_sound h hk
        obtain ⟨u'', h1, h2⟩ := vAt_sound p _ hu' hw
        exact ⟨u'', by rw [hat]; exact h1, h2⟩
      · cases hv
    · cases hv

def castTo (c : Ty) (p : TV) : Option (den c) := if h : p.1 = c then some (h ▸ p.2) else none

/-- A value as a typed one. -/
def castV (c : Ty) (v : V) : Option (den c) :=
  match v with
  | .tv c' x => castTo c ⟨c', x⟩
  | .int k n => castTo c ⟨.int k, n⟩
  | .bool b => castTo c ⟨.bool, b⟩
  | .str s => castTo c ⟨.str, s⟩
  | _ => none

theorem castTo_eq {c : Ty} {p : TV} {x : den c} (h : castTo c p = some x) : p = ⟨c, x⟩ := by
  unfold castTo at h
  split at h
  · rename_i e
    obtain ⟨c', y⟩ := p
    simp only at e
    subst e
    simp only [Option.some.injEq] at h
    subst h
    rfl
  · cases h

theorem castTo_tvr {c c' : Ty} {y : den c'} {x : den c} {t : Tr} (h : castTo c ⟨c', y⟩ = some x) (ht : TVR c' y t) : TVR c x t := by
  have e := castTo_eq h
  injection e with e1 e2
  subst e1
  have e2 := eq_of_heq e2
  subst e2
  exact ht

theorem castV_sound {c : Ty} {v : V} {x : den c} {t : Tr} (h : castV c v = some x) (hf : FlatR cur H v t) : TVR c x t := by
  cases hf with
  | tv ht => exact castTo_tvr h ht
  | int k n => exact castTo_tvr h (.int k n)
  | bool b => exact castTo_tvr h (.bool b)
  | str s => exact castTo_tvr h (.str s)
  | _ => simp [castV] at h

def castAll : (cs : List Ty) → List V → Option (HL cs)
  | [], [] => some ()
  | c :: cs, v :: vs => match castV c v, castAll cs vs with
    | some x, some h => some (x, h)
    | _, _ => none
  | _, _ => none

theorem castAll_sound : ∀ (cs : List Ty) (vs : List V) (h : HL cs) (ts : List Tr), castAll cs vs = some h → FlatL cur H vs ts → ts.length = (hparts cs h).length ∧ ∀ (i : Nat) p t, (hparts cs h)[i]? = some p → ts[i]? = some t → TVR p.1 p.2 t
  | [], [], h, ts, hc, hf => by
    obtain ⟨hl, _⟩ := hf
    simp only [List.length_nil, List.length_eq_zero_iff] at hl
    subst hl
    exact ⟨rfl, by intro i p t h1; simp [hparts] at h1⟩
  | c :: cs, v :: vs, h, ts, hc, hf => by
    simp only [castAll] at hc
    split at hc
    · rename_i x h' hx hh
      obtain rfl := Option.some.inj hc
      obtain ⟨hl, hp⟩ := hf
      cases ts with
      | nil => simp at hl
      | cons t ts =>
        obtain ⟨h1, h2⟩ := castAll_sound cs vs h' ts hh ⟨by simpa using hl, fun i v t hv ht => hp (i + 1) v t (by simpa using hv) (by simpa using ht)⟩
        refine ⟨by simp [hparts, h1], fun i p u hi hu => ?_⟩
        cases i with
        | zero =>
          simp only [hparts, List.getElem?_cons_zero, Option.some.injEq] at hi hu
          subst hi hu
          exact castV_sound hx (hp 0 v _ rfl rfl)
        | succ i => exact h2 i p u (by simpa [hparts] using hi) (by simpa using hu)
    · cases hc
  | [], _ :: _, h, ts, hc, hf => by simp [castAll] at hc
  | _ :: _, [], h, ts, hc, hf => by simp [castAll] at hc

/-- A struct of parts, typed where it can be. -/
def tight (s : SId) (vs : List V) : V :=
  match castAll (tys s) vs with
  | some h => .tv (.st s) (ofH s h)
  | none => .node s vs

theorem tight_sound {s : SId} {vs : List V} {ts : List Tr} (h : FlatL cur H vs ts) : FlatR cur H (tight s vs) (.node (ssz s) (soffs s) ts) := by
  unfold tight
  split
  · rename_i hh hc
    obtain ⟨h1, h2⟩ := castAll_sound _ _ _ _ hc h
    refine .tv (.st s _ ts ?_ ?_)
    · simpa [parts, toH_ofH] using h1
    · intro i p t hp ht
      exact h2 i p t (by simpa [parts, toH_ofH] using hp) ht
  · exact .node h.1 h.2

/-- The value with another part. -/
def putKid (v : V) (i : Nat) (u : V) : Option V :=
  match v with
  | .tv (.st s) x => some (tight s (((parts s x).map fun p => V.of p.1 p.2).set i u))
  | .tv (.arr n c) x => match castV c u with
    | some y => some (.tv (.arr n c) (x.setIfInBounds i y))
    | none => none
  | .node s vs => some (tight s (vs.set i u))
  | _ => none

theorem FlatL.set {vs : List V} {ts : List Tr} (h : FlatL cur H vs ts) (i : Nat) {u : V} {u' : Tr} (hu : FlatR cur H u u') : FlatL cur H (vs.set i u) (ts.set i u') := by
  refine ⟨by simp [h.1], fun j v t hv ht => ?_⟩
  rw [List.getElem?_set] at hv ht
  by_cases hij : i = j
  · subst hij
    rw [if_pos rfl] at hv ht
    split at hv
    · split at ht
      · simp only [Option.some.injEq] at hv ht; subst hv ht; exact hu
      · cases ht
    · cases hv
  · rw [if_neg hij] at hv ht
    exact h.2 j v t hv ht

theorem setF_node {i : Nat} {p : List Nat} {new : Tr} {sz : Nat} {offs : List Nat} {ts : List Tr} {x y : Tr} (hx : ts[i]? = some x) (h : Tr.setF p new x = some y) : Tr.setF (i :: p) new (.node sz offs ts) = some (.node sz offs (ts.set i y)) := by
  simp only [Tr.setF, hx, h, Option.map_some]
theorem setF_arr {i : Nat} {p : List Nat} {new : Tr} {sz : Nat} {ts : List Tr} {x y : Tr} (hx : ts[i]? = some x) (h : Tr.setF p new x = some y) : Tr.setF (i :: p) new (.arr sz ts) = some (.arr sz (ts.set i y)) := by
  simp only [Tr.setF, hx, h, Option.map_some]

def vSet : V → List Nat → V → Option V
  | _, [], new => some new
  | v, i :: p, new => match kid v i with
    | some (_, _, u) => match vSet u p new with
      | some u' => putKid v i u'
      | none => none
    | none => none

theorem vSet_sound {new : V} {new' : Tr} (hn : FlatR cur H new new') : ∀ (p : List Nat) {v : V} {t : Tr} (acc : Nat), FlatR cur H v t → ∀ {o : Nat} {u v' : V}, vAt v p acc = some (true, o, u) → vSet v p new = some v' →
    ∃ t', Tr.setF p new' t = some t' ∧ FlatR cur H v' t'
  | [], v, t, acc, h, o, u, v', hv, hs => by
    simp only [vSet, Option.some.injEq] at hs
    subst hs
    exact ⟨new', rfl, hn⟩
  | i :: p, v, t, acc, h, o, u, v', hv, hs => by
    simp only [vAt] at hv
    simp only [vSet] at hs
    split at hv
    · rename_i g o1 u1 hk
      rw [hk] at hs
      split at hv
      · rename_i g' o' w hw
        simp only [Option.some.injEq, Prod.mk.injEq, Bool.and_eq_true] at hv
        obtain ⟨⟨rfl, rfl⟩, rfl, rfl⟩ := hv
        simp only at hs
        split at hs
        · rename_i u2 hu2
          unfold kid at hk
          unfold putKid at hs
          split at hk
          · rename_i s x
            split at hk
            · rename_i q o'' hq ho
              simp only [Option.some.injEq, Prod.mk.injEq, true_and] at hk
              obtain ⟨rfl, rfl⟩ := hk
              simp only [Option.some.injEq] at hs
              subst hs
              cases h with
              | tv h =>
                cases h with
                | st s x ts hl h =>
                  obtain ⟨t1, ht1⟩ := get_of_len hl hq
                  obtain ⟨t2, h1, h2⟩ := vSet_sound hn p _ (FlatR.of (h i q t1 hq ht1)) hw hu2
                  refine ⟨_, setF_node ht1 h1, tight_sound (FlatL.set ⟨by simp [hl], fun j v t hv ht => ?_⟩ i h2)⟩
                  rw [List.getElem?_map] at hv
                  obtain ⟨p', hp', rfl⟩ := Option.map_eq_some_iff.1 hv
                  exact .of (h j p' t hp' ht)
            · cases hk
          · rename_i n c x
            simp only [Option.some.injEq, Prod.mk.injEq] at hk
            obtain ⟨hi, rfl, rfl⟩ := hk
            have hi : i < n := by simpa [Nat.blt_eq] using hi
            simp only at hs
            split at hs
            · rename_i y hy
              simp only [Option.some.injEq] at hs
              subst hs
              cases h with
              | tv h =>
                cases h with
                | arr xs ts hl h =>
                  have hx := getD_some (l := Vector.toList (n := n) x) (d := dflt c) (i := i) (by rw [vlen]; exact hi)
                  obtain ⟨t1, ht1⟩ := get_of_len (ts := ts) (hl.trans (vlen x).symm) hx
                  obtain ⟨t2, h1, h2⟩ := vSet_sound hn p _ (FlatR.of (h i _ t1 hx ht1)) hw hu2
                  refine ⟨_, setF_arr ht1 h1, .tv (.arr _ _ (by simp [hl]) fun j z t hz ht => ?_)⟩
                  have hz' : ((Vector.toList (n := n) x).set i y)[j]? = some z := by
                    rw [← hz]
                    congr 1
                    exact (Vector.toList_setIfInBounds (xs := (x : Vector (den c) n))).symm
                  rw [List.getElem?_set] at hz' ht
                  by_cases hij : i = j
                  · subst hij
                    rw [if_pos rfl] at hz' ht
                    split at hz'
                    · split at ht
                      · simp only [Option.some.injEq] at hz' ht
                        subst hz' ht
                        exact castV_sound hy h2
                      · cases ht
                    · cases hz'
                  · rw [if_neg hij] at hz' ht
                    exact h j z t hz' ht
            · cases hs
          · rename_i s vs
            split at hk
            · rename_i u' o'' hu ho
              simp only [Option.some.injEq, Prod.mk.injEq, true_and] at hk
              obtain ⟨rfl, rfl⟩ := hk
              simp only [Option.some.injEq] at hs
              subst hs
              cases h with
              | node hl h =>
                obtain ⟨t1, ht1⟩ := get_of_len hl hu
                obtain ⟨t2, h1, h2⟩ := vSet_sound hn p _ (h i _ t1 hu ht1) hw hu2
                exact ⟨_, setF_node ht1 h1, tight_sound (FlatL.set ⟨hl, h⟩ i h2)⟩
            · cases hk
          · cases hk
        · cases hs
      · cases hv
    · cases hv
end
end Go.Proofs.Ytnonimnhninafaa.Ab
