/- All operations on typed values. -/
import Derived.Test.YtnonimnhninafaaAbV7
namespace Go.Proofs.Ytnonimnhninafaa.Ab
open Go

def vRes (x : Option V) : VRes :=
  match x with
  | some v => some (true, ⟨v, none⟩)
  | none => none
def vRes2 (x : Option (Bool × V)) : VRes :=
  match x with
  | some p => some (p.1, ⟨p.2, none⟩)
  | none => none

def vNil (s : VSt) (v : V) : Option V :=
  match v with
  | .vptr d g p off => bif Nat.beq (s.cur d) g then some (.vptr d g p off) else none
  | .tp c x => some (.tp c x)
  | _ => none

def vExt (v : V) (i : Nat) : Option V :=
  match v with
  | .tup vs => vs[i]?
  | _ => none

def vMin (x y : V) : Option V :=
  match x, y with
  | .int k a, .int k' b => if k = k' then some (.int k (min a b)) else none
  | _, _ => none
def vMax (x y : V) : Option V :=
  match x, y with
  | .int k a, .int k' b => if k = k' then some (.int k (max a b)) else none
  | _, _ => none

def vBuiltin (Θ : Tab) (tyOf : TypeId → Option Ty) (s : VSt) (L : Nat) (b : Builtin) (tys : List TypeId) (args : List V) : VRes :=
  match b, tys, args with
  | .len, [t], [x] => vLen Θ s t x
  | .append, [t, u], [x, y] => vAppend Θ tyOf s L t u x y
  | .copy, [t, _], [x, y] => vCopy Θ tyOf s t x y
  | .min, _, [x, y] => vRes (vMin x y)
  | .max, _, [x, y] => vRes (vMax x y)
  | _, _, _ => none

def vOp (Θ : Tab) (tyOf : TypeId → Option Ty) (s : VSt) (L : Nat) (op : Op) : VRes :=
  match op with
  | .move x => some (true, ⟨rdV s.T x, none⟩)
  | .assign x => some (true, ⟨rdV s.T x, none⟩)
  | .pick c a b => match rdV s.T c with
    | .bool c => some (true, ⟨bif c then rdV s.T a else rdV s.T b, none⟩)
    | _ => none
  | .alloc t => vAlloc Θ tyOf s L t
  | .box _ x => vBox s L (rdV s.T x)
  | .build t ps => vBuild Θ tyOf s t (ps.toList.map fun p => (p.1, rdV s.T p.2))
  | .buildSlice t len ps => vBuildSlice Θ tyOf s L t len (ps.toList.map fun p => (p.1, rdV s.T p.2))
  | .load t x => vLoad Θ s t (rdV s.T x)
  | .store t x v => vStore Θ s t (rdV s.T x) (rdV s.T v)
  | .nilCheck x => vRes (vNil s (rdV s.T x))
  | .binOp op t x y _ => vRes2 (vBin tyOf op t (rdV s.T x) (rdV s.T y))
  | .unOp op _ x => vRes (vUn op (rdV s.T x))
  | .convert a t x => match Θ a with
    | some _ => vRes (vConv Θ t (rdV s.T x))
    | none => none
  | .makeFunc (.func f) first caps => match first.size with
    | 0 => some (true, ⟨.clo f (caps.toList.map (rdV s.T)), none⟩)
    | _ => none
  | .makeSlice t n m => vMakeSlice Θ tyOf s L t (rdV s.T n) (rdV s.T m)
  | .slice t x lo hi none => vSlice Θ s t (rdV s.T x) (lo.map (rdV s.T)) (hi.map (rdV s.T))
  | .fieldAddr t x f => vFieldAddr Θ s t (rdV s.T x) f
  | .field t x f => vField Θ s t (rdV s.T x) f
  | .indexAddr t x i => vIndexAddr Θ s t (rdV s.T x) (rdV s.T i)
  | .index t x i => vIndex Θ s t (rdV s.T x) (rdV s.T i)
  | .extract x i => vRes (vExt (rdV s.T x) i)
  | .call { callee := .builtin b, args, argTypes } => vBuiltin Θ tyOf s L b argTypes.toList (args.toList.map (rdV s.T))
  | _ => none

def vlb (s : VSt) (v : V) : Option (List Nat) :=
  match v with
  | .any => none
  | .vptr d g _ _ => bif Nat.beq (s.cur d) g then some [d] else none
  | .ownA d g _ => bif Nat.beq (s.cur d) g then some [d] else none
  | _ => some []
def vlbs (s : VSt) : List V → Option (List Nat)
  | [] => some []
  | v :: vs => match vlb s v, vlbs s vs with
    | some a, some b => some (a ++ b)
    | _, _ => none

def vFoot (s : VSt) (L : Nat) (op : Op) : Option (List Nat) :=
  match op with
  | .alloc _ => some [L]
  | .box _ _ => some [L]
  | .buildSlice _ _ _ => some [L]
  | .makeSlice _ _ _ => some [L]
  | .load _ x => vlb s (rdV s.T x)
  | .store _ x _ => vlb s (rdV s.T x)
  | .nilCheck x => vlb s (rdV s.T x)
  | .slice _ x _ _ _ => vlb s (rdV s.T x)
  | .fieldAddr _ x _ => vlb s (rdV s.T x)
  | .indexAddr _ x _ => vlb s (rdV s.T x)
  | .call c => match vlbs s (c.args.toList.map (rdV s.T)) with
    | some l => some (L :: l)
    | none => none
  | _ => some []

section
variable {s : VSt} {s' : St} {Θ : Tab} {tyOf : TypeId → Option Ty}

theorem vlb_sound {v : V} {t : Tr} (hf : FlatR s.cur s'.H v t) {l : List Nat} (h : vlb s v = some l) : lb t = l := by
  cases hf with
  | any => cases h
  | @vptr d g p off t hg hp =>
    unfold vlb at h
    dsimp only at h
    obtain ⟨hc, h⟩ := bif_some h
    rw [hp (Nat.eq_of_beq_eq_true hc)]
    exact Option.some.inj h
  | @ownA d g n t hg hp =>
    unfold vlb at h
    dsimp only at h
    obtain ⟨hc, h⟩ := bif_some h
    rw [(hp (Nat.eq_of_beq_eq_true hc)).1]
    exact Option.some.inj h
  | tv ht => cases ht <;> exact Option.some.inj h
  | _ => exact Option.some.inj h

theorem vlbs_sound : ∀ {vs : List V} {ts : List Tr}, FlatL s.cur s'.H vs ts → ∀ {l : List Nat}, vlbs s vs = some l → ts.flatMap lb = l
  | [], ts, hf, l, h => by
    have : ts = [] := by simpa using hf.1
    subst this
    exact Option.some.inj h
  | v :: vs, [], hf, l, h => by simp [FlatL] at hf
  | v :: vs, t :: ts, hf, l, h => by
    simp only [vlbs] at h
    split at h
    · rename_i a b ha hb
      obtain rfl := Option.some.inj h
      rw [List.flatMap_cons, vlb_sound (hf.2 0 v t rfl rfl) ha, vlbs_sound (ts := ts) ⟨by simpa using hf.1, fun i v t hv ht => hf.2 (i + 1) v t (by simpa using hv) (by simpa using ht)⟩ hb]
    · cases h

theorem rd_list (r : Rel s s') (xs : List Operand) : FlatL s.cur s'.H (xs.map (rdV s.T)) (xs.map (rdOp s'.T)) := by
  refine ⟨by simp, fun i v t hv ht => ?_⟩
  rw [List.getElem?_map] at hv ht
  obtain ⟨x, hx, rfl⟩ := Option.map_eq_some_iff.1 hv
  rw [hx] at ht
  simp only [Option.map_some, Option.some.injEq] at ht
  subst ht
  exact rdV_sound r x

theorem rd_parts (r : Rel s s') (xs : List (Nat × Operand)) : PartsF s.cur s'.H (xs.map fun p => (p.1, rdV s.T p.2)) (xs.map fun p => (p.1, rdOp s'.T p.2)) := by
  refine ⟨by simp, fun i v t hv ht => ?_⟩
  rw [List.getElem?_map] at hv ht
  obtain ⟨x, hx, rfl⟩ := Option.map_eq_some_iff.1 hv
  rw [hx] at ht
  simp only [Option.map_some, Option.some.injEq] at ht
  subst ht
  exact ⟨rfl, rdV_sound r x.2⟩

theorem vFoot_sound (r : Rel s s') {L : Nat} {op : Op} {l : List Nat} (h : vFoot s L op = some l) : foot L (rdOp s'.T) op = l := by
  unfold vFoot at h
  split at h <;> first | (exact Option.some.inj h) | (exact vlb_sound (rdV_sound r _) h) | skip
  · split at h
    · rename_i c _ l' hl
      obtain rfl := Option.some.inj h
      have := vlbs_sound (rd_list r c.args.toList) hl
      simp only [foot]
      rw [← this, List.flatMap_map]
    · cases h
  · rename_i n1 n2 n3 n4 n5 n6 n7 n8 n9 n10 n11
    obtain rfl := Option.some.inj h
    cases op <;> first | rfl | (exact absurd rfl (n1 _)) | (exact absurd rfl (n2 _ _)) | (exact absurd rfl (n3 _ _ _)) | (exact absurd rfl (n4 _ _ _)) | (exact absurd rfl (n5 _ _)) | (exact absurd rfl (n6 _ _ _)) | (exact absurd rfl (n7 _)) | (exact absurd rfl (n8 _ _ _ _ _)) | (exact absurd rfl (n9 _ _ _)) | (exact absurd rfl (n10 _ _ _)) | (exact absurd rfl (n11 _))

theorem vRes_ok {x : Option V} {e : VEff} (h : vRes x = some (true, e)) : ∃ v, x = some v ∧ e = ⟨v, none⟩ := by
  unfold vRes at h
  split at h
  · simp only [Option.some.injEq, Prod.mk.injEq, true_and] at h; exact ⟨_, rfl, h.symm⟩
  · cases h
theorem vRes2_ok {x : Option (Bool × V)} {e : VEff} (h : vRes2 x = some (true, e)) : ∃ v, x = some (true, v) ∧ e = ⟨v, none⟩ := by
  unfold vRes2 at h
  split at h
  · rename_i p
    obtain ⟨p1, p2⟩ := p
    simp only [Option.some.injEq, Prod.mk.injEq] at h
    obtain ⟨rfl, h⟩ := h
    exact ⟨_, rfl, h.symm⟩
  · cases h

theorem vBuiltin_sound (hty : TypOK Θ tyOf) (r : Rel s s') {L : Nat} {b : Builtin} {tys : List TypeId} {args : List V} {args' : List Tr} (ha : FlatL s.cur s'.H args args') {e : VEff} (h : vBuiltin Θ tyOf s L b tys args = some (true, e)) :
    ∃ f, aBuiltin Θ s'.H L b tys args' = some f ∧ EffF s.cur s'.H e f := by
  unfold vBuiltin at h
  split at h
  · rename_i t x
    obtain ⟨hl, hp⟩ := ha
    match args', hl with
    | [x'], _ =>
      obtain ⟨f, h1, h2⟩ := vLen_sound r (hp 0 x x' rfl rfl) h
      exact ⟨f, h1, h2⟩
  · rename_i t u x y
    obtain ⟨hl, hp⟩ := ha
    match args', hl with
    | [x', y'], _ => exact vAppend_sound hty r (hp 0 x x' rfl rfl) (hp 1 y y' rfl rfl) h
  · rename_i t u x y
    obtain ⟨hl, hp⟩ := ha
    match args', hl with
    | [x', y'], _ => exact vCopy_sound hty r (hp 0 x x' rfl rfl) (hp 1 y y' rfl rfl) h
  · rename_i x y
    obtain ⟨hl, hp⟩ := ha
    match args', hl with
    | [x', y'], _ =>
      obtain ⟨v, hv, rfl⟩ := vRes_ok h
      have h1 := hp 0 x x' rfl rfl
      have h2 := hp 1 y y' rfl rfl
      unfold vMin at hv
      split at hv
      · split at hv
        · rename_i e
          subst e
          obtain rfl := Option.some.inj hv
          cases h1; cases h2
          refine ⟨_, by simp only [aBuiltin, aMin, if_true]; rfl, ?_⟩
          show FlatR _ _ _ _
          rename_i k a b _
          have : min a b = if b < a then b else a := by omega
          rw [this]
          exact .int _ _
        · cases hv
      · cases hv
  · rename_i x y
    obtain ⟨hl, hp⟩ := ha
    match args', hl with
    | [x', y'], _ =>
      obtain ⟨v, hv, rfl⟩ := vRes_ok h
      have h1 := hp 0 x x' rfl rfl
      have h2 := hp 1 y y' rfl rfl
      unfold vMax at hv
      split at hv
      · split at hv
        · rename_i e
          subst e
          obtain rfl := Option.some.inj hv
          cases h1; cases h2
          refine ⟨_, by simp only [aBuiltin, aMax, if_true]; rfl, ?_⟩
          show FlatR _ _ _ _
          rename_i k a b _
          have : max a b = if b > a then b else a := by omega
          rw [this]
          exact .int _ _
        · cases hv
      · cases hv
  · cases h

theorem vNil_sound {v u : V} {t : Tr} (hf : FlatR s.cur s'.H v t) (h : vNil s v = some u) : (∃ d g p off, t = .ptr d g p off ∧ (s'.H d).1 = g ∧ FlatR s.cur s'.H u t) ∨ (∃ y, t = .iptr y ∧ FlatR s.cur s'.H u t) := by
  unfold vNil at h
  split at h
  · obtain ⟨hg, h⟩ := bif_some h
    obtain rfl := Option.some.inj h
    cases hf with
    | vptr h1 h2 =>
      have := h2 (Nat.eq_of_beq_eq_true hg)
      subst this
      exact .inl ⟨_, _, _, _, rfl, rfl, .vptr h1 h2⟩
  · obtain rfl := Option.some.inj h
    cases hf with
    | tp h => exact .inr ⟨_, rfl, .tp h⟩
  · cases h

theorem bndF_of (r : Rel s s') (lo : Option Operand) : BndF s.cur s'.H (lo.map (rdV s.T)) (lo.map (rdOp s'.T)) := by
  cases lo with
  | none => trivial
  | some x => exact rdV_sound r x

theorem vOp_sound (hty : TypOK Θ tyOf) (r : Rel s s') {L : Nat} {op : Op} {e : VEff} (h : vOp Θ tyOf s L op = some (true, e)) : ∃ f, aOp Θ s'.H L (rdOp s'.T) op = some f ∧ EffF s.cur s'.H e f := by
  unfold vOp at h
  split at h
  · obtain ⟨_, rfl⟩ := res_true h
    exact ⟨_, rfl, rdV_sound r _⟩
  · obtain ⟨_, rfl⟩ := res_true h
    exact ⟨_, rfl, rdV_sound r _⟩
  · rename_i c a b
    have hc := rdV_sound r c
    split at h
    · rename_i b' hb
      obtain ⟨_, rfl⟩ := res_true h
      rw [hb] at hc
      cases hc' : rdOp s'.T c <;> rw [hc'] at hc <;> cases hc
      refine ⟨⟨if b' = true then rdOp s'.T a else rdOp s'.T b, none⟩, by simp only [aOp, hc'], ?_⟩
      show FlatR _ _ _ _
      cases b' with
      | true => exact rdV_sound r a
      | false => exact rdV_sound r b
    · cases h
  · obtain ⟨ti, h1, h2, h3⟩ := vAlloc_sound hty h
    exact ⟨_, by simp only [aOp, h1, h2, if_true], h3⟩
  · rename_i t x
    obtain ⟨h1, h2⟩ := vBox_sound (rdV_sound r x) h
    exact ⟨_, by simp only [aOp, h1, if_true], h2⟩
  · rename_i t ps
    obtain ⟨ti, h1, h2, f, h3, h4⟩ := vBuild_sound hty (rd_parts r ps.toList) h
    exact ⟨f, by simp only [aOp, h1, h2, if_true]; exact h3, h4⟩
  · rename_i t len ps
    obtain ⟨ti, el, ei, xs, h1, h2, h3, h4, h5, h6⟩ := vBuildSlice_sound hty (rd_parts r ps.toList) h
    refine ⟨_, ?_, h6⟩
    simp only [aOp, h1, h2, h3]
    rw [if_pos h4, h5]
  · rename_i t x
    obtain ⟨f, h1, h2⟩ := vLoad_sound r (rdV_sound r x) h
    exact ⟨f, h1, h2⟩
  · rename_i t x v
    exact vStore_sound r (rdV_sound r x) (rdV_sound r v) h
  · rename_i x
    obtain ⟨v, hv, rfl⟩ := vRes_ok h
    rcases vNil_sound (rdV_sound r x) hv with ⟨d, g, p, off, h1, h2, h3⟩ | ⟨y, h1, h3⟩
    · refine ⟨⟨.ptr d g p off, none⟩, by simp only [aOp, h1, h2, if_true], ?_⟩
      show FlatR _ _ _ _
      rw [← h1]; exact h3
    · refine ⟨⟨.iptr y, none⟩, by simp only [aOp, h1], ?_⟩
      show FlatR _ _ _ _
      rw [← h1]; exact h3
  · rename_i op t x y pos
    obtain ⟨v, hv, rfl⟩ := vRes2_ok h
    obtain ⟨f, h1, h2⟩ := vBin_sound hty (rdV_sound r x) (rdV_sound r y) hv
    exact ⟨f, h1, h2⟩
  · rename_i op t x
    obtain ⟨v, hv, rfl⟩ := vRes_ok h
    obtain ⟨f, h1, h2⟩ := vUn_sound (rdV_sound r x) hv
    exact ⟨f, h1, h2⟩
  · rename_i a t x
    split at h
    · rename_i i hi
      obtain ⟨v, hv, rfl⟩ := vRes_ok h
      obtain ⟨f, h1, h2⟩ := vConv_sound a (rdV_sound r x) hv
      exact ⟨f, by simp only [aOp, hi]; exact h1, h2⟩
    · cases h
  · rename_i f first caps
    split at h
    · rename_i h0
      obtain ⟨_, rfl⟩ := res_true h
      refine ⟨⟨.clo f (caps.toList.map (rdOp s'.T)), none⟩, by simp only [aOp, h0, if_true], ?_⟩
      have := rd_list r caps.toList
      exact .clo this.1 this.2
    · cases h
  · rename_i t n m
    exact vMakeSlice_sound hty r (rdV_sound r n) (rdV_sound r m) h
  · rename_i t x lo hi
    obtain ⟨f, h1, h2⟩ := vSlice_sound (rdV_sound r x) (bndF_of r lo) (bndF_of r hi) h
    exact ⟨f, h1, h2⟩
  · rename_i t x f
    obtain ⟨f, h1, h2⟩ := vFieldAddr_sound r (rdV_sound r x) h
    exact ⟨f, h1, h2⟩
  · rename_i t x f
    obtain ⟨f, h1, h2⟩ := vField_sound (rdV_sound r x) h
    exact ⟨f, h1, h2⟩
  · rename_i t x i
    obtain ⟨f, h1, h2⟩ := vIndexAddr_sound r (rdV_sound r x) (rdV_sound r i) h
    exact ⟨f, h1, h2⟩
  · rename_i t x i
    obtain ⟨f, h1, h2⟩ := vIndex_sound (rdV_sound r x) (rdV_sound r i) h
    exact ⟨f, h1, h2⟩
  · rename_i x i
    obtain ⟨v, hv, rfl⟩ := vRes_ok h
    have hx := rdV_sound r x
    unfold vExt at hv
    split at hv
    · rename_i vs hvs
      rw [hvs] at hx
      cases hx' : rdOp s'.T x <;> rw [hx'] at hx <;> cases hx
      rename_i ts hl hp
      obtain ⟨t, ht⟩ := get_of_len hl hv
      exact ⟨⟨t, none⟩, by simp only [aOp, hx', ht, Option.map_some], hp i v t hv ht⟩
    · cases hv
  · rename_i b args tys
    exact vBuiltin_sound hty r (rd_list r args.toList) h
  · cases h
end
end Go.Proofs.Ytnonimnhninafaa.Ab
