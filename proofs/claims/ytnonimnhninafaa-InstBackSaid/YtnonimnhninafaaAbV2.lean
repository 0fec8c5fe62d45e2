/- Typed states, and the operations on them. -/
import Derived.Test.YtnonimnhninafaaAbV1
namespace Go.Proofs.Ytnonimnhninafaa.Ab
open Go

structure VSt where
  T : List (Nat × V)
  H : List (Nat × (Nat × VObj))

def lkT : List (Nat × V) → Nat → V
  | [], _ => .any
  | (a, v) :: l, t => bif Nat.beq a t then v else lkT l t
def lkH : List (Nat × (Nat × VObj)) → Nat → Nat × VObj
  | [], _ => (0, .unk)
  | (a, o) :: l, t => bif Nat.beq a t then o else lkH l t
def VSt.cur (s : VSt) (d : Nat) : Nat := (lkH s.H d).1

structure Rel (s : VSt) (s' : St) : Prop where
  T : ∀ t, FlatR s.cur s'.H (lkT s.T t) (s'.T t)
  O : ∀ d, ObjF s.cur s'.H (lkH s.H d).2 (s'.H d).2

structure VEff where
  val : V
  hu : Option (Nat × Nat × VObj) := none

abbrev VRes := Option (Bool × VEff)

def VSt.put (s : VSt) (dst : Option Tmp) (v : V) : VSt :=
  match dst with
  | some d => ⟨(d, v) :: s.T, s.H⟩
  | none => s
def VSt.eff (s : VSt) (dst : Option Tmp) (e : VEff) : VSt :=
  match e.hu with
  | none => s.put dst e.val
  | some (d, g, o) => VSt.put ⟨s.T, (d, g, o) :: s.H⟩ dst e.val

/-- What an operation does on trees is what it does on typed values. -/
def EffF (cur : Nat → Nat) (H : Heap) (e : VEff) (f : Eff) : Prop :=
  match e.hu, f.hu with
  | none, none => FlatR cur H e.val f.val
  | some (d, g, o), some (d', g', o') => d' = d ∧ Keeps cur (upd cur d g) H (upd H d (g', o')) ∧ ObjF (upd cur d g) (upd H d (g', o')) o o' ∧ FlatR (upd cur d g) (upd H d (g', o')) e.val f.val
  | _, _ => False

theorem lkT_cons (a : Nat) (v : V) (l : List (Nat × V)) (t : Nat) : lkT ((a, v) :: l) t = if t = a then v else lkT l t := by
  simp only [lkT]
  by_cases h : t = a
  · subst h; simp
  · have : Nat.beq a t = false := by
      rw [Bool.eq_false_iff]; intro e; exact h (Nat.eq_of_beq_eq_true e).symm
    simp [this, h]
theorem lkH_cons (a : Nat) (o : Nat × VObj) (l : List (Nat × (Nat × VObj))) (t : Nat) : lkH ((a, o) :: l) t = if t = a then o else lkH l t := by
  simp only [lkH]
  by_cases h : t = a
  · subst h; simp
  · have : Nat.beq a t = false := by
      rw [Bool.eq_false_iff]; intro e; exact h (Nat.eq_of_beq_eq_true e).symm
    simp [this, h]

theorem cur_cons (T : List (Nat × V)) (H : List (Nat × (Nat × VObj))) (d g : Nat) (o : VObj) : VSt.cur ⟨T, (d, g, o) :: H⟩ = upd (VSt.cur ⟨T, H⟩) d g := by
  funext t
  simp only [VSt.cur, lkH_cons, upd]
  split <;> rfl
theorem cur_T (T T' : List (Nat × V)) (H : List (Nat × (Nat × VObj))) : VSt.cur ⟨T, H⟩ = VSt.cur ⟨T', H⟩ := rfl

theorem Rel.put {s : VSt} {s' : St} (r : Rel s s') (dst : Option Tmp) {v : V} {t : Tr} (h : FlatR s.cur s'.H v t) : Rel (s.put dst v) { T := putT s'.T dst t, H := s'.H } := by
  cases dst with
  | none => exact ⟨r.T, r.O⟩
  | some d =>
    refine ⟨fun j => ?_, r.O⟩
    show FlatR s.cur s'.H (lkT ((d, v) :: s.T) j) (upd s'.T d t j)
    rw [lkT_cons, upd_apply]
    split
    · exact h
    · exact r.T j

theorem Rel.step {s : VSt} {s' : St} (r : Rel s s') (dst : Option Tmp) {e : VEff} {f : Eff} (h : EffF s.cur s'.H e f) : Rel (s.eff dst e) { T := putT s'.T dst f.val, H := f.heap s'.H } := by
  unfold EffF at h
  unfold VSt.eff Eff.heap
  split at h
  · rename_i h1 h2
    rw [h1, h2]
    exact r.put dst h
  · rename_i d g o d' g' o' h1 h2
    rw [h1, h2]
    simp only
    obtain ⟨hd, hk, ho, hv⟩ := h
    subst hd
    have r2 : Rel ⟨s.T, (d', g, o) :: s.H⟩ ⟨s'.T, upd s'.H d' (g', o')⟩ := by
      refine ⟨fun t => ?_, fun t => ?_⟩
      · rw [cur_cons]; exact (r.T t).keep hk
      · rw [cur_cons]
        simp only [lkH_cons, upd_apply]
        split
        · exact ho
        · exact (r.O t).keep hk
    refine Rel.put r2 dst ?_
    rw [cur_cons]
    exact hv
  · exact h.elim

/-- A new object under a label. -/
theorem Keeps.new {cur : Nat → Nat} {H : Heap} (d : Nat) (o : AObj) : Keeps cur (upd cur d (cur d + 1)) H (upd H d ((H d).1 + 1, o)) := by
  refine ⟨fun j => ?_, fun j h => ?_⟩
  · simp only [upd]; split
    · rename_i e; subst e; omega
    · exact Nat.le_refl _
  · simp only [upd] at h ⊢
    split at h
    · rename_i e; subst e; omega
    · rename_i e; rw [if_neg e]; exact ⟨rfl, fun e sz ts h => ⟨e, sz, ts, h, rfl⟩⟩
/-- An object that is written. -/
theorem Keeps.write {cur : Nat → Nat} {H : Heap} (d : Nat) (o : AObj) (h : ∀ e sz ts, o = .row e sz ts → ∃ e' sz' ts', (H d).2 = .row e' sz' ts' ∧ ts'.length = ts.length) : Keeps cur (upd cur d (cur d)) H (upd H d ((H d).1, o)) := by
  refine ⟨fun j => ?_, fun j _ => ?_⟩
  · simp only [upd]; split
    · rename_i e; subst e; exact Nat.le_refl _
    · exact Nat.le_refl _
  · simp only [upd]
    split
    · rename_i e; subst e; exact ⟨rfl, h⟩
    · exact ⟨rfl, fun e sz ts h => ⟨e, sz, ts, h, rfl⟩⟩

def vConst : Value → V
  | .int k n => .int k n
  | .bool b => .bool b
  | .string s => .str s
  | .pointer none => .nilp
  | .slice none 0 0 => .nils
  | .nilFunc => .nilf
  | _ => .any

def unk : V → V
  | .kn b => .bool b
  | v => v
def rdV (T : List (Nat × V)) : Operand → V
  | .tmp t => unk (lkT T t)
  | .const v => vConst v
  | .global _ => .any
  | .func f => .clo f []

theorem vConst_sound {cur : Nat → Nat} {H : Heap} (v : Value) : FlatR cur H (vConst v) (ofConst v) := by
  unfold vConst
  split
  · exact .int _ _
  · exact .bool _
  · exact .str _
  · exact .nilp
  · exact .nils
  · exact .nilf
  · exact .any _

theorem unk_sound {cur : Nat → Nat} {H : Heap} {v : V} {t : Tr} (h : FlatR cur H v t) : FlatR cur H (unk v) t := by
  unfold unk
  split
  · cases h; exact .bool _
  · exact h

theorem rdV_sound {s : VSt} {s' : St} (r : Rel s s') (x : Operand) : FlatR s.cur s'.H (rdV s.T x) (rdOp s'.T x) := by
  cases x with
  | tmp t => exact unk_sound (r.T t)
  | const v => exact vConst_sound v
  | global g => exact .any _
  | func f => exact .clo rfl (fun i v t h => by simp at h)

/-- The tree of a type's zero, and the value that it shows. -/
def tz : Nat → Ty → Tr
  | _, .int k => .int k 0
  | _, .bool => .bool false
  | _, .str => .str ByteArray.empty
  | _, .sl _ => .nils
  | n + 1, .arr m c => .arr (tsz c) (List.replicate m (tz n c))
  | n + 1, .st s => .node (ssz s) (soffs s) ((tys s).map (tz n))
  | 0, _ => .any
def tzOK : Nat → Ty → Bool
  | _, .int _ => true
  | _, .bool => true
  | _, .str => true
  | _, .sl _ => true
  | n + 1, .arr _ c => tzOK n c
  | n + 1, .st s => (tys s).all (tzOK n)
  | 0, _ => false
/-- Is there no slice in values of the type? -/
def noSl : Nat → Ty → Bool
  | _, .int _ => true
  | _, .bool => true
  | _, .str => true
  | _, .sl _ => false
  | n + 1, .arr _ c => noSl n c
  | n + 1, .st s => (tys s).all (noSl n)
  | 0, _ => false
def zF : Nat → Ty → V
  | _, .int k => .int k 0
  | _, .bool => .bool false
  | _, .str => .str ByteArray.empty
  | _, .sl _ => .nils
  | _, .arr n c => .tv (.arr n c) (dflt (.arr n c))
  | n + 1, .st s => bif noSl 9 (.st s) then .tv (.st s) (sdflt s) else .node s ((tys s).map (zF n))
  | 0, _ => .any

theorem hparts_dflt : ∀ cs : List Ty, hparts cs (hdflt cs) = cs.map fun c => ⟨c, dflt c⟩
  | [] => rfl
  | c :: cs => by simp only [hparts, hdflt, List.map_cons, hparts_dflt cs]

theorem tz_sound : ∀ (n : Nat) (c : Ty), tzOK n c = true → TVR c (dflt c) (tz n c) := by
  intro n
  induction n with
  | zero =>
    intro c h
    cases c with
    | int k => exact .int k 0
    | bool => exact .bool false
    | str => exact .str _
    | sl c => exact .nil c
    | _ => simp [tzOK] at h
  | succ n ih =>
    intro c h
    cases c with
    | int k => exact .int k 0
    | bool => exact .bool false
    | str => exact .str _
    | sl c => exact .nil c
    | arr m c =>
      refine .arr _ _ (by simp) fun i x t hx ht => ?_
      have hx' : (List.replicate m (dflt c))[i]? = some x := by
        rw [← hx]; simp only [dflt]; congr 1
      rw [List.getElem?_replicate] at hx' ht
      split at hx'
      · rename_i hi
        rw [if_pos hi] at ht
        simp only [Option.some.injEq] at hx' ht
        subst hx' ht
        exact ih c h
      · cases hx'
    | st s =>
      simp only [tzOK, List.all_eq_true] at h
      have hp : parts s (dflt (.st s)) = (tys s).map fun c => ⟨c, dflt c⟩ := by
        show parts s (sdflt s) = _
        unfold parts; rw [toH_dflt, hparts_dflt]
      refine .st s _ _ (by simp [hp]) fun i p t hi ht => ?_
      rw [hp, List.getElem?_map] at hi
      rw [List.getElem?_map] at ht
      obtain ⟨c, hc, rfl⟩ := Option.map_eq_some_iff.1 hi
      rw [hc] at ht
      simp only [Option.map_some, Option.some.injEq] at ht
      subst ht
      exact ih c (h c (List.mem_of_getElem? hc))

theorem zF_sound {cur : Nat → Nat} {H : Heap} : ∀ (n : Nat) (c : Ty), tzOK n c = true → FlatR cur H (zF n c) (tz n c) := by
  intro n
  induction n with
  | zero =>
    intro c h
    cases c with
    | int k => exact .int k 0
    | bool => exact .bool false
    | str => exact .str _
    | sl c => exact .nils
    | _ => simp [tzOK] at h
  | succ n ih =>
    intro c h
    cases c with
    | int k => exact .int k 0
    | bool => exact .bool false
    | str => exact .str _
    | sl c => exact .nils
    | arr m c => exact .tv (tz_sound (n + 1) (.arr m c) h)
    | st s =>
      simp only [zF]
      cases hb : noSl 9 (.st s) with
      | true => exact .tv (tz_sound (n + 1) (.st s) h)
      | false =>
        simp only [tzOK, List.all_eq_true] at h
        refine .node (by simp) fun i v t hv ht => ?_
        rw [List.getElem?_map] at hv ht
        obtain ⟨c, hc, rfl⟩ := Option.map_eq_some_iff.1 hv
        rw [hc] at ht
        simp only [Option.map_some, Option.some.injEq] at ht
        subst ht
        exact ih c (h c (List.mem_of_getElem? hc))

/-- What the table of types says of a type's code. -/
structure TyC (Θ : Tab) (tyOf : TypeId → Option Ty) (t : TypeId) (c : Ty) (i : TyI) : Prop where
  get : Θ t = some i
  zero : i.zero = tz 9 c
  zok : tzOK 9 c = true
  size : i.size = tsz c
  agg : i.kind.isAgg = tAgg c
  kind : match c with
    | .int k => i.kind = .int k
    | .bool => i.kind = .bool
    | .str => i.kind = .str
    | .sl c' => ∃ e, i.kind = .slice e ∧ tyOf e = some c'
    | .arr n c' => ∃ e, i.kind = .array n e ∧ tyOf e = some c'
    | .st s => ∃ ids, i.kind = .struct (soffs s) ids ∧ ids.map tyOf = (tys s).map some
def TypOK (Θ : Tab) (tyOf : TypeId → Option Ty) : Prop := ∀ t c, tyOf t = some c → ∃ i, TyC Θ tyOf t c i

end Go.Proofs.Ytnonimnhninafaa.Ab
