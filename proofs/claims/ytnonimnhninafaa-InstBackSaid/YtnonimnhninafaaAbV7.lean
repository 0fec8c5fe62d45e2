/- Operations on typed values: comparisons, and all of them together. -/
import Derived.Test.YtnonimnhninafaaAbV6
namespace Go.Proofs.Ytnonimnhninafaa.Ab
open Go

def decDen : (c : Ty) → DecidableEq (den c)
  | .int _ => inferInstanceAs (DecidableEq Int)
  | .bool => inferInstanceAs (DecidableEq Bool)
  | .str => inferInstanceAs (DecidableEq ByteArray)
  | .sl c => @instDecidableEqList (den c) (decDen c)
  | .arr n c => fun (x y : Vector (den c) n) => letI := decDen c; inferInstanceAs (Decidable (x = y))
  | .st s => sdec s

def vEqB (c : Ty) (x y : den c) : Bool := @decide (x = y) (decDen c x y)

def vEq (tyOf : TypeId → Option Ty) (t : TypeId) (x y : V) : Option Bool :=
  match tyOf t with
  | some .bool => match x, y with
    | .bool a, .bool b => some (a == b)
    | _, _ => none
  | some (.st s) => bif noSl 19 (.st s) then match castV (.st s) x, castV (.st s) y with
      | some a, some b => some (vEqB (.st s) a b)
      | _, _ => none
    else none
  | some (.arr n c) => bif noSl 19 (.arr n c) then match castV (.arr n c) x, castV (.arr n c) y with
      | some a, some b => some (vEqB (.arr n c) a b)
      | _, _ => none
    else none
  | _ => none

def vBin (tyOf : TypeId → Option Ty) (op : BinOp) (t : TypeId) (x y : V) : Option (Bool × V) :=
  match x, y with
  | .int k a, .int k' b => match op with
    | .shl => some (decide (0 ≤ b), .int k (k.wrap (a * 2 ^ (min b.toNat k.bits))))
    | .shr => some (decide (0 ≤ b), .int k (a.fdiv (2 ^ (min b.toNat k.bits))))
    | _ => if k = k' then vInt op k a b else none
  | .str a, .str b => vStr op a b
  | _, _ => match op with
    | .eql => match vEq tyOf t x y with
      | some b => some (true, .bool b)
      | none => none
    | .neq => match vEq tyOf t x y with
      | some b => some (true, .bool (!b))
      | none => none
    | _ => none

def vUn (op : UnOp) (x : V) : Option V :=
  match op, x with
  | .not, .bool b => some (.bool (!b))
  | .neg, .int k n => some (.int k (k.wrap (0 - n)))
  | .xor, .int k n => some (.int k (bitOf .xor k (if k.signed then -1 else k.max) n))
  | _, _ => none

def vConv (Θ : Tab) (dst : TypeId) (x : V) : Option V :=
  match Θ dst, x with
  | some i, .int _ n => match i.kind with
    | .int k => some (.int k (k.wrap n))
    | _ => none
  | some i, .str s => match i.kind with
    | .str => some (.str s)
    | _ => none
  | _, _ => none

section
variable {s : VSt} {s' : St} {Θ : Tab} {tyOf : TypeId → Option Ty}

theorem eqL_parts (hty : TypOK Θ tyOf) {n : Nat} (ih : ∀ (c : Ty) (t : TypeId) (x y : den c) (tx ty : Tr), tyOf t = some c → noSl n c = true → TVR c x tx → TVR c y ty → ∃ b, eqT Θ (n + 1) t tx ty = some b ∧ (b = true ↔ x = y)) :
    ∀ (ids : List TypeId) (cs : List Ty) (x y : HL cs) (ts us : List Tr), ids.map tyOf = cs.map some → (∀ c ∈ cs, noSl n c = true) → ts.length = (hparts cs x).length → us.length = (hparts cs y).length →
      (∀ (i : Nat) p t, (hparts cs x)[i]? = some p → ts[i]? = some t → TVR p.1 p.2 t) → (∀ (i : Nat) p t, (hparts cs y)[i]? = some p → us[i]? = some t → TVR p.1 p.2 t) →
      ∃ b, eqT.eqL Θ (n + 1) ids ts us = some b ∧ (b = true ↔ x = y)
  | [], [], x, y, ts, us, _, _, h1, h2, _, _ => by
    have e1 : ts = [] := by simpa [hparts] using h1
    have e2 : us = [] := by simpa [hparts] using h2
    subst e1 e2
    exact ⟨true, rfl, by simp; rfl⟩
  | i :: ids, c :: cs, x, y, ts, us, hi, hn, h1, h2, h3, h4 => by
    cases ts with
    | nil => simp [hparts] at h1
    | cons t ts =>
      cases us with
      | nil => simp [hparts] at h2
      | cons u us =>
        simp only [List.map_cons, List.cons.injEq] at hi
        obtain ⟨i2, tc⟩ := hty i c hi.1
        have hx := h3 0 ⟨c, x.1⟩ t rfl rfl
        have hy := h4 0 ⟨c, y.1⟩ u rfl rfl
        obtain ⟨b, hb, hbi⟩ := ih c i x.1 y.1 t u hi.1 (hn c (by simp)) hx hy
        obtain ⟨r, hr, hri⟩ := eqL_parts hty ih ids cs x.2 y.2 ts us hi.2 (fun c hc => hn c (by simp [hc])) (by simpa [hparts] using h1) (by simpa [hparts] using h2)
          (fun i p t hp ht => h3 (i + 1) p t (by simpa [hparts] using hp) (by simpa using ht)) (fun i p t hp ht => h4 (i + 1) p t (by simpa [hparts] using hp) (by simpa using ht))
        refine ⟨b && r, ?_, ?_⟩
        · simp only [eqT.eqL, tc.get, hb, tc.size, hx.shape.1, hy.shape.1, and_self, if_true, hr]
        · rw [Bool.and_eq_true, hbi, hri]
          constructor
          · rintro ⟨e1, e2⟩; exact Prod.ext e1 e2
          · intro e; exact ⟨congrArg Prod.fst e, congrArg Prod.snd e⟩
  | [], _ :: _, _, _, _, _, hi, _, _, _, _, _ => by simp at hi
  | _ :: _, [], _, _, _, _, hi, _, _, _, _, _ => by simp at hi

theorem eqL_list (hty : TypOK Θ tyOf) {n : Nat} {c : Ty} {e : TypeId} (hc : tyOf e = some c) (hn : noSl n c = true) (ih : ∀ (c : Ty) (t : TypeId) (x y : den c) (tx ty : Tr), tyOf t = some c → noSl n c = true → TVR c x tx → TVR c y ty → ∃ b, eqT Θ (n + 1) t tx ty = some b ∧ (b = true ↔ x = y)) :
    ∀ (m : Nat) (x y : List (den c)) (ts us : List Tr), x.length = m → y.length = m → TVL c x ts → TVL c y us → ∃ b, eqT.eqL Θ (n + 1) (List.replicate m e) ts us = some b ∧ (b = true ↔ x = y)
  | 0, x, y, ts, us, h1, h2, h3, h4 => by
    have e1 : x = [] := by simpa using h1
    have e2 : y = [] := by simpa using h2
    subst e1 e2
    have e1 : ts = [] := by simpa using h3.1
    have e2 : us = [] := by simpa using h4.1
    subst e1 e2
    exact ⟨true, rfl, by simp⟩
  | m + 1, x, y, ts, us, h1, h2, h3, h4 => by
    cases x with
    | nil => simp at h1
    | cons a x =>
      cases y with
      | nil => simp at h2
      | cons b y =>
        cases ts with
        | nil => have := h3.1; simp at this
        | cons t ts =>
          cases us with
          | nil => have := h4.1; simp at this
          | cons u us =>
            obtain ⟨i2, tc⟩ := hty e c hc
            have hx := h3.2 0 a t rfl rfl
            have hy := h4.2 0 b u rfl rfl
            obtain ⟨q, hb, hbi⟩ := ih c e a b t u hc hn hx hy
            obtain ⟨r, hr, hri⟩ := eqL_list hty hc hn ih m x y ts us (by simpa using h1) (by simpa using h2)
              ⟨by simpa using h3.1, fun i p t hp ht => h3.2 (i + 1) p t (by simpa using hp) (by simpa using ht)⟩ ⟨by simpa using h4.1, fun i p t hp ht => h4.2 (i + 1) p t (by simpa using hp) (by simpa using ht)⟩
            refine ⟨q && r, ?_, ?_⟩
            · simp only [List.replicate_succ, eqT.eqL, tc.get, hb, tc.size, hx.shape.1, hy.shape.1, and_self, if_true, hr]
            · rw [Bool.and_eq_true, hbi, hri]
              exact ⟨fun h => by rw [h.1, h.2], fun h => List.cons.inj h⟩

theorem beq_dec {x y : ByteArray} : (x == y) = true ↔ x = y := by
  cases x with
  | mk x =>
    cases y with
    | mk y =>
      show ((x == y) = true) ↔ _
      rw [ByteArray.mk.injEq]
      exact beq_iff_eq (α := Array UInt8)

theorem toH_inj {si : SId} {x y : SDen si} (h : toH si x = toH si y) : x = y := by rw [← ofH_toH si x, ← ofH_toH si y, h]

theorem eqT_int {n : Nat} {t : TypeId} {i : TyI} {k : IntKind} {a b : Int} (h : Θ t = some i) (hk : i.kind = .int k) : eqT Θ (n + 1) t (.int k a) (.int k b) = some (a == b) := by
  unfold eqT; simp only [h, hk, if_true]
theorem eqT_bool {n : Nat} {t : TypeId} {i : TyI} {a b : Bool} (h : Θ t = some i) (hk : i.kind = .bool) : eqT Θ (n + 1) t (.bool a) (.bool b) = some (a == b) := by
  unfold eqT; simp only [h, hk]
theorem eqT_str {n : Nat} {t : TypeId} {i : TyI} {a b : ByteArray} (h : Θ t = some i) (hk : i.kind = .str) : eqT Θ (n + 1) t (.str a) (.str b) = some (a == b) := by
  unfold eqT; simp only [h, hk]

theorem eqT_typed (hty : TypOK Θ tyOf) : ∀ (n : Nat) (c : Ty) (t : TypeId) (x y : den c) (tx ty : Tr), tyOf t = some c → noSl n c = true → TVR c x tx → TVR c y ty → ∃ b, eqT Θ (n + 1) t tx ty = some b ∧ (b = true ↔ x = y) := by
  intro n
  induction n with
  | zero =>
    intro c t x y tx ty hc hn hx hy
    obtain ⟨i, tc⟩ := hty t c hc
    cases hx with
    | int k a => cases hy with
      | int _ _ => exact ⟨(a == (y : Int)), eqT_int tc.get tc.kind, beq_iff_eq (α := Int)⟩
    | bool a => cases hy with
      | bool _ => exact ⟨(a == (y : Bool)), eqT_bool tc.get tc.kind, beq_iff_eq (α := Bool)⟩
    | str a => cases hy with
      | str _ => exact ⟨(a == (y : ByteArray)), eqT_str tc.get tc.kind, beq_dec⟩
    | _ => simp [noSl] at hn
  | succ n ih =>
    intro c t x y tx ty hc hn hx hy
    obtain ⟨i, tc⟩ := hty t c hc
    cases hx with
    | int k a => cases hy with
      | int _ _ => exact ⟨(a == (y : Int)), eqT_int tc.get tc.kind, beq_iff_eq (α := Int)⟩
    | bool a => cases hy with
      | bool _ => exact ⟨(a == (y : Bool)), eqT_bool tc.get tc.kind, beq_iff_eq (α := Bool)⟩
    | str a => cases hy with
      | str _ => exact ⟨(a == (y : ByteArray)), eqT_str tc.get tc.kind, beq_dec⟩
    | nil => simp [noSl] at hn
    | sl => simp [noSl] at hn
    | @arr c n' xs ts hl ht =>
      cases hy with
      | arr _ us hl2 ht2 =>
        obtain ⟨e, hk, he⟩ := tc.kind
        obtain ⟨ie, te⟩ := hty e c he
        obtain ⟨b, hb, hbi⟩ := eqL_list hty he (by simpa [noSl] using hn) ih n' (Vector.toList (n := n') xs) (Vector.toList (n := n') (α := den c) y) ts us (vlen (c := c) xs) (vlen (c := c) y) ⟨hl.trans (vlen (c := c) xs).symm, ht⟩ ⟨hl2.trans (vlen (c := c) y).symm, ht2⟩
        refine ⟨b, ?_, ?_⟩
        · unfold eqT
          simp only [tc.get, hk, te.get, te.size, hl, hl2, and_self, if_true]
          exact hb
        · rw [hbi]; exact Vector.toList_inj
    | st si x ts hl ht =>
      cases hy with
      | st _ _ us hl2 ht2 =>
        obtain ⟨ids, hk, hids⟩ := tc.kind
        have hn' : ∀ c ∈ tys si, noSl n c = true := by simpa [noSl] using hn
        obtain ⟨b, hb, hbi⟩ := eqL_parts hty ih ids (tys si) (toH si x) (toH si y) ts us hids hn' hl hl2 ht ht2
        refine ⟨b, ?_, ?_⟩
        · unfold eqT
          simp only [tc.get, hk, and_self, if_true]
          exact hb
        · rw [hbi]
          exact ⟨toH_inj, fun e => by rw [e]⟩

theorem vEqB_iff {c : Ty} {x y : den c} {b : Bool} (h : b = true ↔ x = y) : b = vEqB c x y := by
  unfold vEqB
  rw [Bool.eq_iff_iff, h]
  exact (@decide_eq_true_iff _ (decDen c x y)).symm

theorem vEq_sound (hty : TypOK Θ tyOf) {cur : Nat → Nat} {H : Heap} {t : TypeId} {x y : V} {x' y' : Tr} (hx : FlatR cur H x x') (hy : FlatR cur H y y') {b : Bool} (h : vEq tyOf t x y = some b) : aEq Θ t x' y' = some b := by
  unfold vEq at h
  split at h
  · rename_i hc
    obtain ⟨i, tc⟩ := hty t _ hc
    split at h
    · rename_i a b'
      cases hx; cases hy
      obtain rfl := Option.some.inj h
      simp only [aEq, tc.get, tc.kind]
    · cases h
  · rename_i si hc
    obtain ⟨hn, h⟩ := bif_some h
    split at h
    · rename_i a b' ha hb
      obtain rfl := Option.some.inj h
      have tx := castV_sound ha hx
      have ty := castV_sound hb hy
      obtain ⟨q, hq, hqi⟩ := eqT_typed hty 19 _ t _ _ _ _ hc hn tx ty
      have e := vEqB_iff hqi
      cases tx with
      | st _ _ ts hl ht => cases ty with
        | st _ _ us hl2 ht2 => rw [← e]; exact hq
    · cases h
  · rename_i n c hc
    obtain ⟨hn, h⟩ := bif_some h
    split at h
    · rename_i a b' ha hb
      obtain rfl := Option.some.inj h
      have tx := castV_sound ha hx
      have ty := castV_sound hb hy
      obtain ⟨q, hq, hqi⟩ := eqT_typed hty 19 _ t _ _ _ _ hc hn tx ty
      have e := vEqB_iff hqi
      cases tx with
      | arr _ ts hl ht => cases ty with
        | arr _ us hl2 ht2 => rw [← e]; exact hq
    · cases h
  · cases h

theorem aBin_eql {t : TypeId} {x y : Tr} {b : Bool} (h : aEq Θ t x y = some b) : aBin Θ .eql t x y = some (.bool b) ∧ aBin Θ .neq t x y = some (.bool (!b)) := by
  unfold aEq at h
  split at h
  · simp only [aBin, aEq, h, Option.map_some, and_self]
  · simp only [aBin, aEq, h, Option.map_some, and_self]
  · cases h
  · cases h
  · simp only [aBin, aEq, h, Option.map_some, and_self]
  · simp only [aBin, aEq, h, Option.map_some, and_self]
  · cases h

theorem vBin_sound (hty : TypOK Θ tyOf) {op : BinOp} {t : TypeId} {x y : V} {x' y' : Tr} (hx : FlatR s.cur s'.H x x') (hy : FlatR s.cur s'.H y y') {v : V} (h : vBin tyOf op t x y = some (true, v)) : RdOK s s' ⟨v, none⟩ (aBin Θ op t x' y') := by
  unfold vBin at h
  split at h
  · rename_i k a k' b
    cases hx; cases hy
    split at h
    · simp only [Option.some.injEq, Prod.mk.injEq, decide_eq_true_eq] at h
      obtain ⟨h0, rfl⟩ := h
      refine .mk ?_ (.int _ _)
      simp only [aBin, aShift]
      rw [if_neg (by omega)]
    · simp only [Option.some.injEq, Prod.mk.injEq, decide_eq_true_eq] at h
      obtain ⟨h0, rfl⟩ := h
      refine .mk ?_ (.int _ _)
      simp only [aBin, aShift]
      rw [if_neg (by omega)]
    · rename_i n1 n2
      split at h
      · rename_i e
        subst e
        obtain ⟨t, h1, h2⟩ := vInt_sound (cur := s.cur) (H := s'.H) h
        refine .mk ?_ h2
        rw [← h1]
        cases op <;> first | (exact absurd rfl n1) | (exact absurd rfl n2) | (simp only [aBin, if_true])
      · cases h
  · rename_i a b
    cases hx; cases hy
    obtain ⟨t, h1, h2⟩ := vStr_sound (cur := s.cur) (H := s'.H) h
    refine .mk ?_ h2
    rw [← h1]
    cases op <;> first | rfl | (simp [vStr] at h)
  · split at h
    · split at h
      · rename_i b hb
        simp only [Option.some.injEq, Prod.mk.injEq, true_and] at h
        subst h
        exact .mk (aBin_eql (vEq_sound hty hx hy hb)).1 (.bool _)
      · cases h
    · split at h
      · rename_i b hb
        simp only [Option.some.injEq, Prod.mk.injEq, true_and] at h
        subst h
        exact .mk (aBin_eql (vEq_sound hty hx hy hb)).2 (.bool _)
      · cases h
    · cases h

theorem vUn_sound {op : UnOp} {x : V} {x' : Tr} (hx : FlatR s.cur s'.H x x') {v : V} (h : vUn op x = some v) : RdOK s s' ⟨v, none⟩ (aUn op x') := by
  unfold vUn at h
  split at h
  · obtain rfl := Option.some.inj h; cases hx; exact .mk rfl (.bool _)
  · obtain rfl := Option.some.inj h; cases hx; exact .mk rfl (.int _ _)
  · obtain rfl := Option.some.inj h; cases hx; exact .mk rfl (.int _ _)
  · cases h

theorem vConv_sound {dst : TypeId} {x : V} {x' : Tr} (src : TypeId) (hx : FlatR s.cur s'.H x x') {v : V} (h : vConv Θ dst x = some v) : RdOK s s' ⟨v, none⟩ (aConv Θ src dst x') := by
  unfold vConv at h
  split at h
  · rename_i i _ n hi
    split at h
    · rename_i k hk
      obtain rfl := Option.some.inj h; cases hx; exact .mk (by simp only [aConv, hi, hk]) (.int _ _)
    · cases h
  · rename_i i b hi
    split at h
    · rename_i hk
      obtain rfl := Option.some.inj h; cases hx; exact .mk (by simp only [aConv, hi, hk]) (.str _)
    · cases h
  · cases h
end
end Go.Proofs.Ytnonimnhninafaa.Ab
