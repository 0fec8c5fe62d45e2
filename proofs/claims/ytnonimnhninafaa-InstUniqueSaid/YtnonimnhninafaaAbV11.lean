/- The reckoning of code on typed values: soundness. -/
import Derived.Test.YtnonimnhninafaaAbV10
namespace Go.Proofs.Ytnonimnhninafaa.Ab
open Go

def VSt.kill (s : VSt) (ls : List Nat) : VSt := ⟨s.T, ls.map (fun d => (d, s.cur d + 1, VObj.unk)) ++ s.H⟩

/-- What answers are made of: a failure, a choice, a guard. -/
structure Alg (A : Type) where
  fail : A
  ite : Bool → A → A → A
  grd : Bool → A → A
def optAlg (A : Type) : Alg (Option A) := ⟨none, fun c x y => bif c then x else y, fun g x => bif g then x else none⟩
/-- Both ways are reckoned: is all well on each, and the truth that comes out. -/
def bothAlg : Alg (Bool × Bool) := ⟨(false, false), fun c x y => (x.1 && y.1, bif c then x.2 else y.2), fun g x => (g && x.1, x.2)⟩

section
variable {A : Type} (W : Alg A) (Θ : Tab) (tyOf : TypeId → Option Ty) (C : FuncId → Option Con) (nt base : Nat)

def callV (f : FuncId) (vs : List V) (D : Drw) (dst : Option Tmp) (s : VSt) (k : Drw → VSt → A) : A :=
  match C f with
  | none => W.fail
  | some con => match castXL [] vs con.ps with
    | some x => match con.m x with
      | some y => k (nxtD D [] none) (s.put dst (ofR con.r y))
      | none => W.fail
    | none => match castXL s.H vs con.ps with
      | some x => match con.m x with
        | some y => match noSlR con.r with
          | true => k (nxtD D (labsL vs) none) (s.put dst (ofR con.r y))
          | false => match D with
            | none => k none ((s.kill (labsL vs)).put dst (ofR con.r y))
            | some _ => W.fail
        | none => W.fail
      | none => W.fail

def evOp (o : Oper) (D : Drw) (s : VSt) (k : Drw → VSt → A) : A :=
  match dstOK nt o.dst with
  | true => match o.op with
    | .call { callee := .value x, args, argTypes := _ } =>
      match rdV s.T x with
      | .clo f caps => callV W C f (args.toList.map (rdV s.T) ++ caps) D o.dst s k
      | _ => W.fail
    | op => match vOp Θ tyOf s (lab base o.dst) op with
      | some (g, e) => W.grd g (match D with
          | none => k none (s.eff o.dst e)
          | some _ => match vFoot s (lab base o.dst) op with
            | some rl => k (nxtD D rl (e.hu.map (·.1))) (s.eff o.dst e)
            | none => W.fail)
      | none => W.fail
  | false => W.fail

def evOps (ds : List (Option Tmp)) : List Oper → Drw → VSt → (VSt → A) → A
  | [], D, s, k => match D with
    | none => k s
    | some p => match compatB p.1 p.2.reverse with
      | true => k s
      | false => W.fail
  | o :: l, D, s, k => match o.guard with
    | none => evOp W Θ tyOf C nt base o D s fun D s => evOps ds l D s k
    | some (j, want) => match ds[j]? with
      | some (some d) => match lkT s.T d with
        | .bool c => match want with
          | true => W.ite c (evOp W Θ tyOf C nt base o D (s.put (some d) (.kn true)) fun D s => evOps ds l D s k)
              (match dstOK nt o.dst with
              | true => evOps ds l (nxtD D [] none) ((s.put (some d) (.kn false)).put o.dst .skip) k
              | false => W.fail)
          | false => W.ite c (match dstOK nt o.dst with
              | true => evOps ds l (nxtD D [] none) ((s.put (some d) (.kn true)).put o.dst .skip) k
              | false => W.fail)
              (evOp W Θ tyOf C nt base o D (s.put (some d) (.kn false)) fun D s => evOps ds l D s k)
        | .kn c => match (c == want) with
          | true => evOp W Θ tyOf C nt base o D s fun D s => evOps ds l D s k
          | false => match dstOK nt o.dst with
            | true => evOps ds l (nxtD D [] none) (s.put o.dst .skip) k
            | false => W.fail
        | .skip => match dstOK nt o.dst with
          | true => evOps ds l (nxtD D [] none) (s.put o.dst .skip) k
          | false => W.fail
        | _ => W.fail
      | _ => W.fail
end

/-- So many rounds of a loop. -/
def evLoop {A : Type} (body : VSt → (Exit → VSt → Option A) → Option A) : Nat → VSt → (Exit → VSt → Option A) → Option A
  | 0, _, _ => none
  | n + 1, s, k => body s fun e s' => match e with
    | .normal => evLoop body n s' k
    | e => k e s'

def dropT : List (Option Tmp) → List (Nat × V) → List (Nat × V)
  | [], T => T
  | some d :: ds, T => (d, .any) :: dropT ds T
  | none :: ds, T => dropT ds T

/-- The end of a region that is reckoned both ways. -/
def bothEnd (n : Nat) (t : Tmp) (s : VSt) : Bool × Bool :=
  match rdV s.T (.tmp t) with
  | .bool x => (Nat.beq s.H.length n, x)
  | _ => (false, false)

def seenV (s : VSt) (c : Operand) (b : Bool) : VSt :=
  match c with
  | .tmp t => s.put (some t) (.kn b)
  | _ => s

/-- A piece of code told once: what it takes out of a state, what it makes of it, what it leaves. -/
structure Seg where
  X : Type
  Y : Type
  get : VSt → Option X
  run : X → Option Y
  fin : {A : Type} → Y → (Exit → VSt → Option A) → Option A
  finS : Y → Exit × VSt

def fstReg : Code → Option Nat
  | .region i _ _ => some i
  | .seq a b => match fstReg a with
    | some i => some i
    | none => fstReg b
  | .cond _ a b => match fstReg a with
    | some i => some i
    | none => fstReg b
  | .block _ c => fstReg c
  | .scope c => fstReg c
  | .loop c => fstReg c
  | .skip => none
  | .label _ => none
  | .ret => none
  | .exit _ => none
  | .rangeFunc _ _ _ _ => none
  | .goto _ => none
  | .refuse _ => none

section
variable {A : Type} (Θ : Tab) (tyOf : TypeId → Option Ty) (C : FuncId → Option Con) (nt base : Nat) (J : Nat → Option Tmp) (G : Nat → Option Seg) (N : Nat)

def evC : Code → VSt → (Exit → VSt → Option A) → Option A
  | .skip, s, k => k .normal s
  | .label _, s, k => k .normal s
  | .ret, s, k => k .ret s
  | .exit id, s, k => k (.exit id) s
  | .seq a b, s, k => evC a s fun e s' => match e with
    | .normal => evC b s' k
    | e => k e s'
  | .cond c x y, s, k => match rdV s.T c with
    | .bool b => bif b then evC x (seenV s c true) k else evC y (seenV s c false) k
    | _ => none
  | .block id c, s, k => evC c s fun e s' => match e with
    | .exit id' => bif Nat.beq id' id then k .normal s' else k (.exit id') s'
    | e => k e s'
  | .scope c, s, k => evC c s fun e s' => match e with
    | .goto _ => none
    | e => k e s'
  | .region id ops draw, s, k => match J id with
    | none => evOps (optAlg A) Θ tyOf C nt base (ops.toList.map (·.dst)) ops.toList (bif draw then some (ops, []) else none) s (k .normal)
    | some t => match evOps bothAlg Θ tyOf C nt base (ops.toList.map (·.dst)) ops.toList (bif draw then some (ops, []) else none) s (bothEnd s.H.length t) with
      | (ok, v) => match ok with
        | true => k .normal ⟨(t, .bool v) :: dropT (ops.toList.map (·.dst)) s.T, s.H⟩
        | false => none
  | .loop c, s, k => match fstReg c with
    | none => none
    | some i => match G i with
      | some g => match g.get s with
        | some x => match g.run x with
          | some y => g.fin y k
          | none => none
        | none => none
      | none => evLoop (evC c) N s k
  | .rangeFunc _ _ _ _, _, _ => none
  | .goto _, _, _ => none
  | .refuse _, _, _ => none
end

section
variable {P : Program} {Θ : Tab} {tyOf : TypeId → Option Ty} {C : FuncId → Option Con} {nt base : Nat} {cur : Nat → Nat} {H : Heap} {s : VSt} {s' : St}

theorem Rel.flatArgs (r : Rel s s') (xs : List Operand) {caps : List V} {ts : List Tr} (hc : FlatL s.cur s'.H caps ts) : FlatL s.cur s'.H (xs.map (rdV s.T) ++ caps) (xs.map (rdOp s'.T) ++ ts) := by
  have h := rd_list r xs
  refine ⟨by simp [hc.1], fun i v t hv ht => ?_⟩
  rw [List.getElem?_append] at hv ht
  simp only [List.length_map] at hv ht
  split at hv
  · rename_i hi; rw [if_pos hi] at ht; exact h.2 i v t hv ht
  · rename_i hi; rw [if_neg hi] at ht; exact hc.2 _ v t hv ht

theorem FlatL.congr {H' : Heap} {vs : List V} {ts : List Tr} (h : FlatL cur H vs ts) (hd : ∀ d ∈ labsL vs, H' d = H d) : FlatL cur H' vs ts :=
  ⟨h.1, fun i v t hv ht => (h.2 i v t hv ht).congr fun d hd' => hd d (labsL_mem (List.mem_of_getElem? hv) hd')⟩

theorem ConOK.handed {f : FuncId} {con : Con} (hc : ConOK P f con) (r : Rel s s') {x : HL con.ps} {y : HL con.r} (hm : con.m x = some y) {vs : List V} {ts : List Tr} (hx : castXL s.H vs con.ps = some x) (hf : FlatL s.cur s'.H vs ts)
    (D : Nat → Bool) (hD : ∀ d ∈ labsL vs, D d = true) {H' : Heap} (hH : ∀ d ∈ labsL vs, H' d = s'.H d) : ACall P f (ts.map (frz H' D)) (fun r _ => r = embR con.r y) ∧ lfL (ts.map (frz H' D)) = true := by
  obtain ⟨k1, k2⟩ := castXL_sound (D := D) (H0 := s'.H) vs con.ps x ts hx (hf.congr hH) fun d hd => .inr ⟨rfl, by rw [hH d hd]; exact r.O d, hD d hd⟩
  refine ⟨hc.trees hm k1 k2, ?_⟩
  rw [lfL_iff]
  intro t ht
  obtain ⟨i, hi, rfl⟩ := List.mem_iff_getElem.1 ht
  exact (k2 i ((hparts con.ps x)[i]'(by omega)) _ (by simp) (List.getElem?_eq_getElem hi)).lf

theorem lkH_kill (c : Nat → Nat) (Hl : List (Nat × (Nat × VObj))) : ∀ (ls : List Nat) (d : Nat), lkH (ls.map (fun d => (d, c d + 1, VObj.unk)) ++ Hl) d = if d ∈ ls then (c d + 1, .unk) else lkH Hl d
  | [], d => by simp
  | a :: ls, d => by
    simp only [List.map_cons, List.cons_append, lkH_cons, lkH_kill c Hl ls d, List.mem_cons]
    by_cases h : d = a
    · subst h; simp
    · simp [h]

theorem Rel.kill (r : Rel s s') (ls : List Nat) : Rel (s.kill ls) ⟨s'.T, Ab.kill (fun d => ls.contains d) s'.H⟩ := by
  have hcur : ∀ d, (s.kill ls).cur d = if d ∈ ls then s.cur d + 1 else s.cur d := fun d => by
    simp only [VSt.cur, VSt.kill]
    rw [lkH_kill]
    split <;> rfl
  have hk : Keeps s.cur (s.kill ls).cur s'.H (Ab.kill (fun d => ls.contains d) s'.H) := by
    refine ⟨fun d => by rw [hcur]; split <;> omega, fun d h => ?_⟩
    rw [hcur] at h
    split at h
    · omega
    · rename_i hn
      have : Ab.kill (fun d => ls.contains d) s'.H d = s'.H d := by simp [Ab.kill, hn]
      rw [this]
      exact ⟨rfl, fun e sz ts h => ⟨e, sz, ts, h, rfl⟩⟩
  refine ⟨fun t => (r.T t).keep hk, fun d => ?_⟩
  show ObjF _ _ (lkH (s.kill ls).H d).2 _
  simp only [VSt.kill]
  rw [lkH_kill]
  split
  · trivial
  · rename_i hn
    have : Ab.kill (fun d => ls.contains d) s'.H d = s'.H d := by simp [Ab.kill, hn]
    rw [this]
    exact (r.O d).keep hk

/-- What the operations of a region leave alone. -/
structure Frm (ds : List (Option Tmp)) (s s2 : VSt) : Prop where
  T : ∀ t, some t ∉ ds → lkT s2.T t = lkT s.T t
  H : ∃ l, s2.H = l ++ s.H
theorem Frm.refl (ds : List (Option Tmp)) (s : VSt) : Frm ds s s := ⟨fun _ _ => rfl, [], rfl⟩
theorem Frm.trans {ds : List (Option Tmp)} {s s2 s3 : VSt} (h : Frm ds s s2) (k : Frm ds s2 s3) : Frm ds s s3 := by
  obtain ⟨l1, e1⟩ := h.H
  obtain ⟨l2, e2⟩ := k.H
  exact ⟨fun t ht => (k.T t ht).trans (h.T t ht), l2 ++ l1, by rw [e2, e1, List.append_assoc]⟩
theorem Frm.mono {ds ds' : List (Option Tmp)} {s s2 : VSt} (h : Frm ds s s2) (hs : ∀ x ∈ ds, x ∈ ds') : Frm ds' s s2 := ⟨fun t ht => h.T t fun hm => ht (hs _ hm), h.H⟩
theorem Frm.put (s : VSt) (dst : Option Tmp) (v : V) : Frm [dst] s (s.put dst v) := by
  cases dst with
  | none => exact Frm.refl _ _
  | some d =>
    refine ⟨fun t ht => ?_, [], rfl⟩
    show lkT ((d, v) :: s.T) t = _
    rw [lkT_cons, if_neg (by intro e; subst e; simp at ht)]
theorem Frm.kill {ds : List (Option Tmp)} (s : VSt) (ls : List Nat) : Frm ds s (s.kill ls) := ⟨fun _ _ => rfl, _, rfl⟩
theorem Frm.eff (s : VSt) (dst : Option Tmp) (e : VEff) : Frm [dst] s (s.eff dst e) := by
  unfold VSt.eff
  split
  · exact Frm.put s dst _
  · rename_i d g o h
    have h1 : Frm [dst] s ⟨s.T, (d, g, o) :: s.H⟩ := ⟨fun _ _ => rfl, [(d, g, o)], rfl⟩
    exact h1.trans (Frm.put _ dst _)

def ConsOK (P : Program) (C : FuncId → Option Con) : Prop := ∀ f con, C f = some con → ConOK P f con

theorem callV_sound {A : Type} (hC : ConsOK P C) (r : Rel s s') {f : FuncId} {vs : List V} {ts : List Tr} (hf : FlatL s.cur s'.H vs ts) {D : Drw} {dst : Option Tmp} {k : Drw → VSt → Option A} {a : A} (h : callV (optAlg A) C f vs D dst s k = some a)
    {K : Drw → St → Prop} (hk : ∀ D2 s2 s2', Rel s2 s2' → Frm [dst] s s2 → k D2 s2 = some a → K D2 s2') : callX P D f ts s'.H fun D' r H' => K D' { T := putT s'.T dst r, H := H' } := by
  unfold callV at h
  split at h
  · cases h
  · rename_i con hcon
    have hc := hC f con hcon
    split at h
    · rename_i x hx
      split at h
      · rename_i y hy
        have hp := fun H' => hc.pureCall hy hx hf H'
        have hr := hk _ _ _ (r.put dst (ofR_flat con.r hc.2.1 y)) (Frm.put s dst _) h
        cases D with
        | none =>
          show CallSem P f ts s'.H fun r H' => K none { T := putT s'.T dst r, H := H' }
          refine (hp s'.H).mono ?_
          rintro r' H' ⟨rfl, rfl⟩
          exact hr
        | some p =>
          obtain ⟨os, acc⟩ := p
          exact ⟨[], ⟨embR con.r y, none⟩, fun H' _ => hp H', hr⟩
      · cases h
    · split at h
      · rename_i x hx
        split at h
        · rename_i y hy
          cases hn : noSlR con.r with
          | true =>
            rw [hn] at h
            have hr := hk _ _ _ (r.put dst (ofR_flat con.r hc.2.1 y)) (Frm.put s dst _) h
            have hp : ∀ H', (∀ d ∈ labsL vs, H' d = s'.H d) → CallSem P f ts H' fun r H'' => r = embR con.r y ∧ H'' = H' := fun H' hH => by
              obtain ⟨h1, h2⟩ := hc.handed r hy hx hf (fun _ => true) (fun _ _ => rfl) hH
              refine (CallSem.borrow (fun _ => true) (R' := fun r => r = embR con.r y) h1 rfl h2 fun r H1 hr => ?_).mono fun r H1 hr => hr
              subst hr
              exact ⟨retOf_nosl (embs_nosl hc.2.1 hn y), rfl⟩
            cases D with
            | none =>
              show CallSem P f ts s'.H fun r H' => K none { T := putT s'.T dst r, H := H' }
              refine (hp s'.H fun _ _ => rfl).mono ?_
              rintro r' H' ⟨rfl, rfl⟩
              exact hr
            | some p =>
              obtain ⟨os, acc⟩ := p
              exact ⟨labsL vs, ⟨embR con.r y, none⟩, fun H' hH => hp H' hH, hr⟩
          | false =>
            rw [hn] at h
            cases D with
            | none =>
              simp only at h
              have hr := hk _ _ _ ((r.kill (labsL vs)).put dst (ofR_flat con.r hc.2.1 y)) ((Frm.kill s _).trans (Frm.put _ dst _)) h
              obtain ⟨h1, h2⟩ := hc.handed r hy hx hf (fun d => (labsL vs).contains d) (fun d hd => by simpa using hd) (H' := s'.H) (fun _ _ => rfl)
              show CallSem P f ts s'.H fun r H' => K none { T := putT s'.T dst r, H := H' }
              refine (CallSem.pure (fun d => (labsL vs).contains d) (R' := fun r => r = embR con.r y) h1 rfl h2 fun r H1 hr => ?_).mono ?_
              · subst hr
                have hlf : (embR con.r y).lf = true := retOf_lf (embs_lf hc.2.1 y)
                rw [frz_lf _ _ _ hlf]
                exact ⟨hlf, rfl⟩
              · rintro r' H' ⟨rfl, rfl⟩
                exact hr
            | some p => cases h
        · cases h
      · cases h

theorem evOp_sound {A : Type} (hty : TypOK Θ tyOf) (hC : ConsOK P C) {o : Oper} {D : Drw} (r : Rel s s') {k : Drw → VSt → Option A} {a : A} (h : evOp (optAlg A) Θ tyOf C nt base o D s k = some a)
    {K : Drw → St → Prop} (hk : ∀ D2 s2 s2', Rel s2 s2' → Frm [o.dst] s s2 → k D2 s2 = some a → K D2 s2') : dstOK nt o.dst = true ∧ opX P Θ nt base o D K s' := by
  unfold evOp at h
  cases hd : dstOK nt o.dst with
  | false => rw [hd] at h; cases h
  | true =>
  rw [hd] at h
  dsimp only at h
  refine ⟨rfl, ?_⟩
  unfold opX
  split at h
  · rename_i x args tys hop
    rw [hop]
    simp only
    split at h
    · rename_i f caps hx
      have hf := rdV_sound r x
      rw [hx] at hf
      generalize rdOp s'.T x = t at hf ⊢
      cases hf with
      | @clo _ _ ts hl hp =>
        simp only
        exact ⟨hd, callV_sound hC r (r.flatArgs args.toList ⟨hl, hp⟩) h hk⟩
    · cases h
  · rename_i op hno
    split at h
    · rename_i g e hop
      obtain ⟨hg, h⟩ := bif_some (show (bif g then _ else none) = some a from h)
      subst hg
      obtain ⟨f, hf, he⟩ := vOp_sound hty r hop
      split
      · rename_i x args tys hop'
        exact absurd hop' (hno _ _ _)
      · rw [hf]
        refine ⟨hd, ?_⟩
        cases D with
        | none => exact hk _ _ _ (r.step o.dst he) (Frm.eff s o.dst e) h
        | some p =>
          simp only at h
          split at h
          · rename_i rl hrl
            have hwl : e.hu.map (·.1) = f.hu.map (·.1) := by
              unfold EffF at he
              split at he
              · rename_i h1 h2; rw [h1, h2]; rfl
              · rename_i h1 h2; rw [h1, h2]; simp [he.1]
              · exact he.elim
            rw [vFoot_sound r hrl, ← hwl]
            exact hk _ _ _ (r.step o.dst he) (Frm.eff s o.dst e) h
          · cases h
    · cases h

theorem Rel.seen (r : Rel s s') {d : Tmp} {b : Bool} (h : rdV s.T (.tmp d) = .bool b) : Rel (s.put (some d) (.kn b)) s' ∧ s'.T d = .bool b := by
  have hd := unk_sound (r.T d)
  have h : unk (lkT s.T d) = .bool b := h
  rw [h] at hd
  have e : s'.T d = .bool b := by cases hd' : s'.T d <;> rw [hd'] at hd <;> cases hd; rfl
  refine ⟨?_, e⟩
  have := r.put (some d) (.kn b : FlatR s.cur s'.H (.kn b) (.bool b))
  have e2 : putT s'.T (some d) (.bool b) = s'.T := upd_same_eq _ _ e
  rw [e2] at this
  exact this

theorem evOps_sound {A : Type} (hty : TypOK Θ tyOf) (hC : ConsOK P C) (ds : List (Option Tmp)) : ∀ (l : List Oper) (D : Drw) (s : VSt) (s' : St) (k : VSt → Option A) (a : A), (∀ o ∈ l, o.dst ∈ ds) → Rel s s' → evOps (optAlg A) Θ tyOf C nt base ds l D s k = some a →
    ∀ {K : St → Prop}, (∀ s2 s2', Rel s2 s2' → Frm ds s s2 → k s2 = some a → K s2') → wpX P Θ nt base ds l D K s'
  | [], none, s, s', k, a, hds, r, h, K, hk => hk s s' r (Frm.refl _ _) h
  | [], some (ops, acc), s, s', k, a, hds, r, h, K, hk => by
    unfold evOps at h
    dsimp only at h
    cases hc : compatB ops acc.reverse with
    | false => rw [hc] at h; cases h
    | true => rw [hc] at h; exact ⟨hc, hk s s' r (Frm.refl _ _) h⟩
  | o :: l, D, s, s', k, a, hds, r, h, K, hk => by
    have hdo : o.dst ∈ ds := hds o (by simp)
    have hdl : ∀ x ∈ l, x.dst ∈ ds := fun x hx => hds x (by simp [hx])
    have one : ∀ {s2 : VSt}, Frm [o.dst] s s2 → Frm ds s s2 := fun f => f.mono fun x hx => by
      rw [List.mem_singleton] at hx; rw [hx]; exact hdo
    unfold evOps at h
    unfold wpX
    split at h
    · rename_i hg
      rw [hg]
      exact (evOp_sound hty hC r h fun D2 s2 s2' r2 f2 h2 => evOps_sound hty hC ds l D2 s2 s2' k a hdl r2 h2 fun s3 s3' r3 f3 => hk s3 s3' r3 ((one f2).trans f3)).2
    · rename_i j want hg
      rw [hg]
      simp only
      split at h
      · rename_i d hd
        have hgt : guardT ds s'.T j = s'.T d := by simp only [guardT, hd]
        have hdm : some d ∈ ds := List.mem_of_getElem? hd
        rw [hgt]
        split at h
        · rename_i c hc
          obtain ⟨r2, e⟩ := r.seen (show unk (lkT s.T d) = .bool c by rw [hc]; rfl)
          have fs : Frm ds s (s.put (some d) (.kn c)) := (Frm.put s (some d) _).mono fun x hx => by
            rw [List.mem_singleton] at hx; rw [hx]; exact hdm
          rw [e]
          simp only
          have op : ∀ {w : Bool}, c = w → evOp (optAlg A) Θ tyOf C nt base o D (s.put (some d) (.kn w)) (fun D s => evOps (optAlg A) Θ tyOf C nt base ds l D s k) = some a → opX P Θ nt base o D (fun D' s => wpX P Θ nt base ds l D' K s) s' := by
            rintro w rfl h
            exact (evOp_sound hty hC r2 h fun D2 s2 s2' r2 f2 h2 => evOps_sound hty hC ds l D2 s2 s2' k a hdl r2 h2 fun s3 s3' r3 f3 => hk s3 s3' r3 ((fs.trans (f2.mono fun x hx => by rw [List.mem_singleton] at hx; rw [hx]; exact hdo)).trans f3)).2
          have sk : ∀ {w : Bool}, c = w → (match dstOK nt o.dst with | true => evOps (optAlg A) Θ tyOf C nt base ds l (nxtD D [] none) ((s.put (some d) (.kn w)).put o.dst .skip) k | false => (optAlg A).fail) = some a → dstOK nt o.dst = true ∧ wpX P Θ nt base ds l (nxtD D [] none) K { T := putT s'.T o.dst (.tup []), H := s'.H } := by
            rintro w rfl h
            cases hdst : dstOK nt o.dst with
            | false => rw [hdst] at h; cases h
            | true =>
              rw [hdst] at h
              exact ⟨rfl, evOps_sound hty hC ds l _ _ _ k a hdl (r2.put o.dst .skip) h fun s3 s3' r3 f3 => hk s3 s3' r3 ((fs.trans ((Frm.put _ o.dst _).mono fun x hx => by rw [List.mem_singleton] at hx; rw [hx]; exact hdo)).trans f3)⟩
          cases want with
          | true =>
            cases c with
            | true => exact ⟨fun _ => op rfl h, fun e => by simp at e⟩
            | false => exact ⟨fun e => by simp at e, fun _ => sk rfl h⟩
          | false =>
            cases c with
            | false => exact ⟨fun _ => op rfl h, fun e => by simp at e⟩
            | true => exact ⟨fun e => by simp at e, fun _ => sk rfl h⟩
        · rename_i c hc
          have hd2 := r.T d
          rw [hc] at hd2
          have e : s'.T d = .bool c := by cases hd' : s'.T d <;> rw [hd'] at hd2 <;> cases hd2; rfl
          rw [e]
          simp only
          cases hcw : c == want with
          | true =>
            rw [hcw] at h
            have hcw : c = want := by simpa using hcw
            refine ⟨fun _ => (evOp_sound hty hC r h fun D2 s2 s2' r2 f2 h2 => evOps_sound hty hC ds l D2 s2 s2' k a hdl r2 h2 fun s3 s3' r3 f3 => hk s3 s3' r3 ((one f2).trans f3)).2, fun e => ?_⟩
            rw [hcw] at e
            cases want <;> simp at e
          | false =>
            rw [hcw] at h
            have hcw : c ≠ want := by simpa using hcw
            refine ⟨fun e => absurd e hcw, fun _ => ?_⟩
            cases hdst : dstOK nt o.dst with
            | false => rw [hdst] at h; cases h
            | true =>
              rw [hdst] at h
              exact ⟨rfl, evOps_sound hty hC ds l _ _ _ k a hdl (r.put o.dst .skip) h fun s3 s3' r3 f3 => hk s3 s3' r3 ((one (Frm.put s o.dst _)).trans f3)⟩
        · rename_i hc
          have hd2 := r.T d
          rw [hc] at hd2
          have e : s'.T d = .tup [] := by cases hd' : s'.T d <;> rw [hd'] at hd2 <;> cases hd2; rfl
          rw [e]
          simp only
          cases hdst : dstOK nt o.dst with
          | false => rw [hdst] at h; cases h
          | true =>
            rw [hdst] at h
            exact ⟨rfl, evOps_sound hty hC ds l _ _ _ k a hdl (r.put o.dst .skip) h fun s3 s3' r3 f3 => hk s3 s3' r3 ((one (Frm.put s o.dst _)).trans f3)⟩
        · cases h
      · cases h

/-- What is reckoned both ways is what is reckoned way by way. -/
def BothR (p : Bool × Bool) (o : Option Bool) : Prop := p.1 = true → o = some p.2
theorem BothR.fail {o : Option Bool} : BothR bothAlg.fail o := fun h => by cases h
theorem BothR.ite {c : Bool} {p q : Bool × Bool} {x y : Option Bool} (h : BothR p x) (k : BothR q y) : BothR (bothAlg.ite c p q) ((optAlg Bool).ite c x y) := fun e => by
  have e2 : (p.1 && q.1) = true := e
  rw [Bool.and_eq_true] at e2
  cases c with
  | true => exact h e2.1
  | false => exact k e2.2
theorem BothR.grd {g : Bool} {p : Bool × Bool} {x : Option Bool} (h : BothR p x) : BothR (bothAlg.grd g p) ((optAlg Bool).grd g x) := fun e => by
  have e : (g && p.1) = true := e
  rw [Bool.and_eq_true] at e
  have := h e.2
  show (bif g then x else none) = some p.2
  rw [e.1]; exact this

theorem callV_both {f : FuncId} {vs : List V} {D : Drw} {dst : Option Tmp} {k1 : Drw → VSt → Bool × Bool} {k2 : Drw → VSt → Option Bool} (hk : ∀ D s, BothR (k1 D s) (k2 D s)) : BothR (callV bothAlg C f vs D dst s k1) (callV (optAlg Bool) C f vs D dst s k2) := by
  unfold callV
  split
  · exact .fail
  · split
    · split
      · exact hk _ _
      · exact .fail
    · split
      · split
        · split
          · exact hk _ _
          · split
            · exact hk _ _
            · exact .fail
        · exact .fail
      · exact .fail

theorem evOp_both {o : Oper} {D : Drw} {k1 : Drw → VSt → Bool × Bool} {k2 : Drw → VSt → Option Bool} (hk : ∀ D s, BothR (k1 D s) (k2 D s)) : BothR (evOp bothAlg Θ tyOf C nt base o D s k1) (evOp (optAlg Bool) Θ tyOf C nt base o D s k2) := by
  unfold evOp
  split
  · split
    · split
      · exact callV_both hk
      · exact .fail
    · split
      · refine .grd ?_
        split
        · exact hk _ _
        · split
          · exact hk _ _
          · exact .fail
      · exact .fail
  · exact .fail

theorem evOps_both (ds : List (Option Tmp)) : ∀ (l : List Oper) (D : Drw) (s : VSt) (k1 : VSt → Bool × Bool) (k2 : VSt → Option Bool), (∀ s, BothR (k1 s) (k2 s)) → BothR (evOps bothAlg Θ tyOf C nt base ds l D s k1) (evOps (optAlg Bool) Θ tyOf C nt base ds l D s k2)
  | [], D, s, k1, k2, hk => by
    unfold evOps
    split
    · exact hk s
    · split
      · exact hk s
      · exact .fail
  | o :: l, D, s, k1, k2, hk => by
    have ih := fun D s => evOps_both ds l D s k1 k2 hk
    unfold evOps
    split
    · exact evOp_both ih
    · split
      · split
        · split
          · refine .ite (evOp_both ih) ?_
            split
            · exact ih _ _
            · exact .fail
          · refine .ite ?_ (evOp_both ih)
            split
            · exact ih _ _
            · exact .fail
        · split
          · exact evOp_both ih
          · split
            · exact ih _ _
            · exact .fail
        · split
          · exact ih _ _
          · exact .fail
        · exact .fail
      · exact .fail

theorem dropT_lk : ∀ (ds : List (Option Tmp)) (T : List (Nat × V)) (t : Nat), lkT (dropT ds T) t = if some t ∈ ds then .any else lkT T t
  | [], T, t => by simp [dropT]
  | none :: ds, T, t => by simp [dropT, dropT_lk ds T t]
  | some d :: ds, T, t => by
    simp only [dropT, lkT_cons, dropT_lk ds T t, List.mem_cons, Option.some.injEq]
    by_cases h : t = d
    · simp [h]
    · simp [h]

/-- A told piece of code is told right. -/
def SegOK (P : Program) (nt : Nat) (c : Code) (g : Seg) : Prop :=
  (∀ (A : Type) (y : g.Y) (k : Exit → VSt → Option A) (a : A), g.fin y k = some a → k (g.finS y).1 (g.finS y).2 = some a) ∧
  ∀ (s : VSt) (s' : St) (x : g.X) (y : g.Y), Rel s s' → g.get s = some x → g.run x = some y → WP P nt c (fun e s2' => e = (g.finS y).1 ∧ Rel (g.finS y).2 s2') s'

/-- All loops within a piece of code that are told, are told right. -/
def SegsOK (P : Program) (nt : Nat) (G : Nat → Option Seg) : Code → Prop
  | .seq a b => SegsOK P nt G a ∧ SegsOK P nt G b
  | .cond _ a b => SegsOK P nt G a ∧ SegsOK P nt G b
  | .block _ c => SegsOK P nt G c
  | .scope c => SegsOK P nt G c
  | .loop c => (∀ i g, fstReg c = some i → G i = some g → SegOK P nt (.loop c) g) ∧ SegsOK P nt G c
  | _ => True

variable {J : Nat → Option Tmp} {G : Nat → Option Seg} {N : Nat}

theorem evC_sound {A : Type} (hΘ : TabOK P Θ) (hm : P.follows .mixedOrders = true) (hty : TypOK Θ tyOf) (hC : ConsOK P C) : ∀ (c : Code) (s : VSt) (s' : St) (k : Exit → VSt → Option A) (a : A), SegsOK P nt G c → Rel s s' → evC Θ tyOf C nt base J G N c s k = some a →
    ∀ {K : Exit → St → Prop}, (∀ e s2 s2', Rel s2 s2' → k e s2 = some a → K e s2') → wpcX P Θ nt base c K s'
  | .skip, s, s', k, a, g, r, h, K, hk => hk _ s s' r h
  | .label _, s, s', k, a, g, r, h, K, hk => hk _ s s' r h
  | .ret, s, s', k, a, g, r, h, K, hk => hk _ s s' r h
  | .exit id, s, s', k, a, g, r, h, K, hk => hk _ s s' r h
  | .seq x y, s, s', k, a, g, r, h, K, hk => by
    unfold evC at h
    unfold wpcX
    refine evC_sound hΘ hm hty hC x s s' _ a g.1 r h fun e s2 s2' r2 h2 => ?_
    cases e with
    | normal => exact evC_sound hΘ hm hty hC y s2 s2' k a g.2 r2 h2 hk
    | _ => exact hk _ s2 s2' r2 h2
  | .cond c x y, s, s', k, a, g, r, h, K, hk => by
    unfold evC at h
    unfold wpcX
    split at h
    · rename_i b hb
      have hc := rdV_sound r c
      rw [hb] at hc
      have e : rdOp s'.T c = .bool b := by cases hd' : rdOp s'.T c <;> rw [hd'] at hc <;> cases hc; rfl
      rw [e]
      simp only
      have rs : Rel (seenV s c b) s' := by
        unfold seenV
        split
        · exact (r.seen hb).1
        · exact r
      cases b with
      | true =>
        simp only [cond_true] at h
        exact ⟨fun _ => evC_sound hΘ hm hty hC x _ s' k a g.1 rs h hk, fun e => by simp at e⟩
      | false =>
        simp only [cond_false] at h
        exact ⟨fun e => by simp at e, fun _ => evC_sound hΘ hm hty hC y _ s' k a g.2 rs h hk⟩
    · cases h
  | .block id c, s, s', k, a, g, r, h, K, hk => by
    unfold evC at h
    unfold wpcX
    refine evC_sound hΘ hm hty hC c s s' _ a g r h fun e s2 s2' r2 h2 => ?_
    cases e with
    | exit id' =>
      simp only at h2
      simp only [inBlk]
      cases hb : Nat.beq id' id with
      | true =>
        rw [hb] at h2
        rw [if_pos (Nat.eq_of_beq_eq_true hb)]
        exact hk _ s2 s2' r2 h2
      | false =>
        rw [hb] at h2
        rw [if_neg (beq_ne hb)]
        exact hk _ s2 s2' r2 h2
    | _ => exact hk _ s2 s2' r2 h2
  | .scope c, s, s', k, a, g, r, h, K, hk => by
    unfold evC at h
    unfold wpcX
    refine evC_sound hΘ hm hty hC c s s' _ a g r h fun e s2 s2' r2 h2 => ?_
    cases e with
    | goto l => cases h2
    | _ => exact hk _ s2 s2' r2 h2
  | .region id ops draw, s, s', k, a, g, r, h, K, hk => by
    unfold evC at h
    unfold wpcX
    have e : (if draw = true then some (ops, []) else none : Drw) = (bif draw then some (ops, []) else none) := by cases draw <;> rfl
    rw [e]
    have hds : ∀ o ∈ ops.toList, o.dst ∈ ops.toList.map (·.dst) := fun o ho => List.mem_map_of_mem ho
    split at h
    · exact evOps_sound hty hC _ _ _ s s' _ a hds r h fun s2 s2' r2 _ h2 => hk _ s2 s2' r2 h2
    · rename_i t ht
      split at h
      rename_i ok v hov
      split at h
      · rename_i hok
        have hb := evOps_both (Θ := Θ) (tyOf := tyOf) (C := C) (nt := nt) (base := base) (ops.toList.map (·.dst)) ops.toList (bif draw then some (ops, []) else none) s (bothEnd s.H.length t) (fun s2 => bif (bothEnd s.H.length t s2).1 then some (bothEnd s.H.length t s2).2 else none) (fun s2 e => by rw [e]; rfl)
        rw [hov] at hb
        have hb := hb rfl
        refine evOps_sound hty hC _ _ _ s s' _ v hds r hb fun s2 s2' r2 f2 h2 => ?_
        obtain ⟨h3, h4⟩ := bif_some h2
        unfold bothEnd at h3 h4
        split at h3
        · rename_i x hx
          rw [hx] at h4
          have hlen := Nat.eq_of_beq_eq_true h3
          obtain ⟨l, hl⟩ := f2.H
          have hl0 : l = [] := by
            have := congrArg List.length hl
            simp only [List.length_append] at this
            exact List.length_eq_zero_iff.1 (by omega)
          subst hl0
          have hH : s2.H = s.H := by simpa using hl
          have hx' : x = v := Option.some.inj h4
          subst hx'
          refine hk _ _ s2' ⟨fun j => ?_, fun d => ?_⟩ h
          · have hcur : VSt.cur ⟨(t, V.bool x) :: dropT (ops.toList.map (·.dst)) s.T, s.H⟩ = s2.cur := by
              unfold VSt.cur; rw [hH]
            rw [hcur]
            rw [lkT_cons, dropT_lk]
            split
            · rename_i e; subst e
              have := rdV_sound r2 (.tmp j)
              rw [hx] at this
              exact this
            · split
              · exact .any _
              · rename_i hn
                have := r2.T j
                rw [f2.T j hn] at this
                exact this
          · have := r2.O d
            have hcur : VSt.cur ⟨(t, V.bool x) :: dropT (ops.toList.map (·.dst)) s.T, s.H⟩ = s2.cur := by
              unfold VSt.cur; rw [hH]
            rw [hcur]
            rw [hH] at this
            exact this
        · cases h3
      · cases h
  | .loop c, s, s', k, a, g, r, h, K, hk => by
    unfold evC at h
    unfold wpcX
    split at h
    · cases h
    · rename_i i hi
      split at h
      · rename_i sg hsg
        obtain ⟨gf, gw⟩ := g.1 i sg hi hsg
        split at h
        · rename_i x hx
          split at h
          · rename_i y hy
            have h := gf _ y k a h
            refine (gw s s' x y r hx hy).mono fun e s2' hh => ?_
            obtain ⟨rfl, hr⟩ := hh
            exact hk _ _ s2' hr h
          · cases h
        · cases h
      · intro M0 M act gm
        refine wp_loop_rounds N ?_
        have key : ∀ n s s' (M : Mem) (act : Act), Rel s s' → evLoop (evC Θ tyOf C nt base J G N c) n s k = some a → Gam M0 nt s' M act → Code.rounds P c (fun e a' w' => ∃ s2' M', M'.w = w' ∧ K e s2' ∧ Gam M0 nt s2' M' a') n act M.w := by
          intro n
          induction n with
          | zero => intro s s' M act _ h; cases h
          | succ n ih =>
            intro s s' M act r h gm
            rw [rounds_succ]
            have hw := evC_sound hΘ hm hty hC c s s' _ a g.2 r h (K := fun e s2' => match e with
              | .normal => ∃ s2, Rel s2 s2' ∧ evLoop (evC Θ tyOf C nt base J G N c) n s2 k = some a
              | e => K e s2') (fun e s2 s2' r2 h2 => by
              cases e with
              | normal => exact ⟨s2, r2, h2⟩
              | _ => exact hk _ s2 s2' r2 h2)
            refine wp_mono (wpcX_sound hΘ hm c _ s' hw M0 M act gm) ?_
            rintro e a' w' ⟨s2', M', rfl, hkk, g'⟩
            cases e with
            | normal =>
              obtain ⟨s2, r2, h2⟩ := hkk
              exact ih s2 s2' M' a' r2 h2 g'
            | _ => exact ⟨s2', M', rfl, hkk, g'⟩
        exact key N s s' M act r h gm
  | .rangeFunc _ _ _ _, s, s', k, a, g, r, h, K, hk => by cases h
  | .goto _, s, s', k, a, g, r, h, K, hk => by cases h
  | .refuse _, s, s', k, a, g, r, h, K, hk => by cases h
end
end Go.Proofs.Ytnonimnhninafaa.Ab
