/- Loops, told once: what lives at their head, what a round does, what they leave. -/
import Derived.Test.YtnonimnhninafaaAbV13a
namespace Go.Proofs.Ytnonimnhninafaa.Ab
open Go

/-- What is known of a state: slots that hold typed values, slots that point to objects, objects. -/
structure Ann where
  vals : List (Nat × Ty)
  ptrs : List (Nat × Nat)
  objs : List (Nat × Ty)

def HV (l : List (Nat × Ty)) : Type := HL (l.map (·.2))
abbrev Ann.X (a : Ann) : Type := HL (a.vals.map (·.2)) × HL (a.objs.map (·.2))

def getVals (Hl : List (Nat × (Nat × VObj))) (T : List (Nat × V)) : (l : List (Nat × Ty)) → Option (HL (l.map (·.2)))
  | [] => some ()
  | (t, c) :: l => match castX Hl (unk (lkT T t)) c, getVals Hl T l with
    | some x, some h => some (x, h)
    | _, _ => none
def getObjs (H : List (Nat × (Nat × VObj))) : (l : List (Nat × Ty)) → Option (HL (l.map (·.2)))
  | [] => some ()
  | (d, c) :: l => match (lkH H d).2 with
    | .cells v => match castX H v c, getObjs H l with
      | some x, some h => some (x, h)
      | _, _ => none
    | _ => none
def getPtrs (s : VSt) : List (Nat × Nat) → Bool
  | [] => true
  | (t, d) :: l => (match lkT s.T t with
    | .vptr d' g p off => Nat.beq d' d && (Nat.beq (s.cur d) g && (p.isEmpty && Nat.beq off 0))
    | _ => false) && getPtrs s l
def getA (a : Ann) (s : VSt) : Option a.X :=
  match getPtrs s a.ptrs with
  | true => match getVals s.H s.T a.vals, getObjs s.H a.objs with
    | some x, some y => some (x, y)
    | _, _ => none
  | false => none

def putVals : (l : List (Nat × Ty)) → HL (l.map (·.2)) → List (Nat × V) → List (Nat × V)
  | [], _, T => T
  | (t, c) :: l, h, T => (t, V.of c h.1) :: putVals l h.2 T
def putPtrs : List (Nat × Nat) → List (Nat × V)
  | [] => []
  | (t, d) :: l => (t, .vptr d 1 [] 0) :: putPtrs l
def putObjs : (l : List (Nat × Ty)) → HL (l.map (·.2)) → List (Nat × (Nat × VObj))
  | [], _ => []
  | (d, c) :: l, h => (d, 1, .cells (V.of c h.1)) :: putObjs l h.2
def putA (a : Ann) (x : a.X) : VSt := ⟨putVals a.vals x.1 (putPtrs a.ptrs), putObjs a.objs x.2⟩

/-- Do all pointers go to objects that are told? -/
def Ann.ok (a : Ann) : Bool := a.ptrs.all fun p => a.objs.any fun q => Nat.beq q.1 p.2

section
variable {s : VSt} {s' : St}

abbrev allD : Nat → Bool := fun _ => true

theorem castX_all (r : Rel s s') {v : V} {c : Ty} {x : den c} {t : Tr} (h : castX s.H v c = some x) (hf : FlatR s.cur s'.H v t) : TVR c x (frz s'.H allD t) :=
  castX_sound (D := allD) (H0 := s'.H) v c x t h hf fun d _ => .inr ⟨rfl, r.O d, rfl⟩

theorem putVals_lk {cur : Nat → Nat} {H : Heap} (r : Rel s s') : ∀ (l : List (Nat × Ty)) (h : HL (l.map (·.2))) (T : List (Nat × V)), getVals s.H s.T l = some h → (∀ t, FlatR cur H (lkT T t) (frz s'.H allD (s'.T t))) → ∀ t, FlatR cur H (lkT (putVals l h T) t) (frz s'.H allD (s'.T t))
  | [], h, T, hg, hT, t => hT t
  | (a, c) :: l, h, T, hg, hT, t => by
    simp only [getVals] at hg
    split at hg
    · rename_i x h' hx hh
      obtain rfl := Option.some.inj hg
      simp only [putVals, lkT_cons]
      split
      · rename_i e; subst e
        exact .of (castX_all r hx (unk_sound (r.T t)))
      · exact putVals_lk r l h' T hh hT t
    · cases hg

theorem putObjs_cur : ∀ (l : List (Nat × Ty)) (h : HL (l.map (·.2))) (d : Nat), (lkH (putObjs l h) d).1 = if l.any (fun q => Nat.beq q.1 d) then 1 else 0
  | [], h, d => rfl
  | (a, c) :: l, h, d => by
    have hany : ((a, c) :: l).any (fun q => Nat.beq q.1 d) = (Nat.beq a d || l.any fun q => Nat.beq q.1 d) := rfl
    have ih := putObjs_cur l h.2 d
    simp only [putObjs, lkH_cons]
    by_cases e : d = a
    · subst e
      rw [if_pos rfl, if_pos (by rw [hany]; simp)]
    · have hb : Nat.beq a d = false := by rw [Bool.eq_false_iff]; intro q; exact e (Nat.eq_of_beq_eq_true q).symm
      rw [if_neg e, ih]
      rw [hb, Bool.false_or] at hany
      rw [hany]

theorem putObjs_obj {cur : Nat → Nat} {H : Heap} (r : Rel s s') : ∀ (l : List (Nat × Ty)) (h : HL (l.map (·.2))), getObjs s.H l = some h → ∀ d, ObjF cur H (lkH (putObjs l h) d).2 (frzH s'.H allD d).2
  | [], h, hg, d => trivial
  | (a, c) :: l, h, hg, d => by
    simp only [getObjs] at hg
    split at hg
    · rename_i v hv
      split at hg
      · rename_i x h' hx hh
        obtain rfl := Option.some.inj hg
        simp only [putObjs, lkH_cons]
        split
        · rename_i e; subst e
          have ho := r.O d
          rw [hv] at ho
          obtain ⟨t, ht, hf⟩ := ho
          refine ⟨frz s'.H allD t, ?_, .of (castX_all r hx hf)⟩
          unfold frzH
          rw [ht]
          rfl
        · exact putObjs_obj r l h' hh d
      · cases hg
    · cases hg

theorem getObjs_cells (r : Rel s s') : ∀ (l : List (Nat × Ty)) (h : HL (l.map (·.2))), getObjs s.H l = some h → ∀ d, l.any (fun q => Nat.beq q.1 d) = true → ∃ t, (s'.H d).2 = .cells t
  | [], h, hg, d, hd => by cases hd
  | (a, c) :: l, h, hg, d, hd => by
    simp only [getObjs] at hg
    split at hg
    · rename_i v hv
      split at hg
      · rename_i x h' hx hh
        have hany : ((a, c) :: l).any (fun q => Nat.beq q.1 d) = (Nat.beq a d || l.any fun q => Nat.beq q.1 d) := rfl
        rw [hany, Bool.or_eq_true] at hd
        rcases hd with hd | hd
        · have e := Nat.eq_of_beq_eq_true hd
          subst e
          have ho := r.O a
          rw [hv] at ho
          obtain ⟨t, ht, _⟩ := ho
          exact ⟨t, ht⟩
        · exact getObjs_cells r l h' hh d hd
      · cases hg
    · cases hg

theorem getA_rel {a : Ann} (hok : a.ok = true) (r : Rel s s') {x : a.X} (h : getA a s = some x) : Rel (putA a x) (frzSt s' allD) := by
  unfold getA at h
  split at h
  · rename_i hp
    split at h
    · rename_i u v hu hv
      obtain rfl := Option.some.inj h
      have hcur : ∀ d, (putA a (u, v)).cur d = if a.objs.any (fun q => Nat.beq q.1 d) then 1 else 0 := fun d => putObjs_cur a.objs v d
      have hptr : ∀ (l : List (Nat × Nat)), getPtrs s l = true → (∀ p ∈ l, a.objs.any (fun q => Nat.beq q.1 p.2) = true) → ∀ t, FlatR (putA a (u, v)).cur (frzH s'.H allD) (lkT (putPtrs l) t) (frz s'.H allD (s'.T t)) := by
        intro l
        induction l with
        | nil => intro _ _ t; exact .any _
        | cons p l ih =>
          obtain ⟨j, d⟩ := p
          intro h1 h2 t
          simp only [getPtrs, Bool.and_eq_true] at h1
          obtain ⟨h1, h3⟩ := h1
          simp only [putPtrs, lkT_cons]
          split
          · rename_i e; subst e
            split at h1
            · rename_i d' g p off hl
              simp only [Bool.and_eq_true] at h1
              obtain ⟨q1, q2, q3, q4⟩ := h1
              have q1 := Nat.eq_of_beq_eq_true q1
              have q2 := Nat.eq_of_beq_eq_true q2
              have q4 := Nat.eq_of_beq_eq_true q4
              have q3 : p = [] := by simpa using q3
              subst q1 q3 q4
              have hf := r.T t
              rw [hl] at hf
              have h5 := h2 (t, d') (by simp)
              obtain ⟨tc, htc⟩ := getObjs_cells r a.objs v hv d' h5
              cases hf with
              | vptr hg hh =>
                refine .vptr ?_ fun _ => ?_
                · rw [hcur, if_pos h5]
                  exact Nat.le_refl _
                · rw [hh q2]
                  have e1 : (frzH s'.H allD d').1 = (s'.H d').1 := by unfold frzH; rw [htc]
                  rw [e1]
                  rfl
            · cases h1
          · exact ih h3 (fun p hp => h2 p (by simp [hp])) t
      refine ⟨putVals_lk r a.vals u _ hu (hptr a.ptrs hp fun p hp => ?_), putObjs_obj r a.objs v hv⟩
      simp only [Ann.ok, List.all_eq_true] at hok
      exact hok p hp
    · cases h
  · cases h
end

/-- How a round ends. -/
inductive Out (X E F R : Type) where
  | next (x : X)
  | brk (e : E)
  | brk2 (e : F)
  | ret (r : R)

/-- So many rounds. -/
def iterO {X E F R : Type} (b : X → Option (Out X E F R)) : Nat → X → Option (Out X E F R)
  | 0, _ => none
  | n + 1, x => match b x with
    | some (.next x') => iterO b n x'
    | r => r

/-- What a loop is told by. -/
structure LAnn where
  head : Ann
  id1 : Nat
  out1 : Ann
  id2 : Nat
  out2 : Ann
  ret : Ann

abbrev LAnn.O (a : LAnn) : Type := Out a.head.X a.out1.X a.out2.X a.ret.X

def endL (a : LAnn) (e : Exit) (s : VSt) : Option a.O :=
  match e with
  | .normal => match getA a.head s with
    | some x => some (.next x)
    | none => none
  | .exit i => bif Nat.beq i a.id1 then (match getA a.out1 s with
      | some x => some (.brk x)
      | none => none) else bif Nat.beq i a.id2 then (match getA a.out2 s with
      | some x => some (.brk2 x)
      | none => none) else none
  | .ret => match getA a.ret s with
    | some x => some (.ret x)
    | none => none
  | _ => none

def finL (a : LAnn) {A : Type} (y : a.O) (k : Exit → VSt → Option A) : Option A :=
  match y with
  | .next _ => none
  | .brk e => k (.exit a.id1) (putA a.out1 e)
  | .brk2 e => k (.exit a.id2) (putA a.out2 e)
  | .ret r => k .ret (putA a.ret r)

def finSL (a : LAnn) (y : a.O) : Exit × VSt :=
  match y with
  | .next x => (.normal, putA a.head x)
  | .brk e => (.exit a.id1, putA a.out1 e)
  | .brk2 e => (.exit a.id2, putA a.out2 e)
  | .ret r => (.ret, putA a.ret r)

/-- A loop as a piece of code that is told once. -/
def segL (a : LAnn) (run : a.head.X → Option a.O) : Seg := ⟨a.head.X, a.O, getA a.head, run, finL a, finSL a⟩

def LAnn.ok (a : LAnn) : Bool := a.head.ok && (a.out1.ok && (a.out2.ok && a.ret.ok))

/-- What a round of a loop computes. -/
def evB (Θ : Tab) (tyOf : TypeId → Option Ty) (C : FuncId → Option Con) (nt base : Nat) (J : Nat → Option Tmp) (G : Nat → Option Seg) (N : Nat) (a : LAnn) (c : Code) (x : a.head.X) : Option a.O :=
  evC Θ tyOf C nt base J G N c (putA a.head x) (endL a)

section
variable {P : Program} {Θ : Tab} {tyOf : TypeId → Option Ty} {C : FuncId → Option Con} {nt base : Nat} {J : Nat → Option Tmp} {G : Nat → Option Seg} {N : Nat}

theorem endL_ok {a : LAnn} (hok : a.ok = true) {e : Exit} {s : VSt} {s' : St} {o : a.O} (r : Rel s s') (h : endL a e s = some o) : e = (finSL a o).1 ∧ Rel (finSL a o).2 (frzSt s' allD) := by
  simp only [LAnn.ok, Bool.and_eq_true] at hok
  obtain ⟨h1, h2, h3, h4⟩ := hok
  unfold endL at h
  cases e with
  | normal =>
    dsimp only at h
    split at h
    · rename_i x hx; obtain rfl := Option.some.inj h; exact ⟨rfl, getA_rel h1 r hx⟩
    · cases h
  | ret =>
    dsimp only at h
    split at h
    · rename_i x hx; obtain rfl := Option.some.inj h; exact ⟨rfl, getA_rel h4 r hx⟩
    · cases h
  | exit i =>
    dsimp only at h
    cases hb : Nat.beq i a.id1 with
    | true =>
      rw [hb] at h
      have hi := Nat.eq_of_beq_eq_true hb
      subst hi
      simp only [cond_true] at h
      split at h
      · rename_i x hx; obtain rfl := Option.some.inj h; exact ⟨rfl, getA_rel h2 r hx⟩
      · cases h
    | false =>
      rw [hb] at h
      simp only [cond_false] at h
      have hq := bif_some h
      clear h
      obtain ⟨hb2, h⟩ := hq
      have hi := Nat.eq_of_beq_eq_true hb2
      subst hi
      split at h
      · rename_i x hx; obtain rfl := Option.some.inj h; exact ⟨rfl, getA_rel h3 r hx⟩
      · cases h
  | _ => cases h

theorem segL_ok (hΘ : TabOK P Θ) (hm : P.follows .mixedOrders = true) (hty : TypOK Θ tyOf) (hC : ConsOK P C) {c : Code} (hG : SegsOK P nt G c) {a : LAnn} (hok : a.ok = true) {run : a.head.X → Option a.O} {body : a.head.X → Option a.O}
    (hb : ∀ x, evB Θ tyOf C nt base J G N a c x = body x) (hrun : ∀ x y, run x = some y → ∃ n, iterO body n x = some y) : SegOK P nt (.loop c) (segL a run) := by
  refine ⟨fun A y k v h => ?_, fun s s' x y r hx hy => ?_⟩
  · cases y with
    | next x => cases h
    | _ => exact h
  · have hhead : a.head.ok = true := by simp only [LAnn.ok, Bool.and_eq_true] at hok; exact hok.1
    obtain ⟨n, hn⟩ := hrun x y hy
    have r0 := getA_rel hhead r hx
    intro M0 M act gm0
    refine wp_loop_rounds n ?_
    have gm := gm0.freeze allD
    have key : ∀ n x s' (M : Mem) (act : Act), Rel (putA a.head x) s' → iterO body n x = some y → Gam M0 nt s' M act → Code.rounds P c (fun e a' w' => ∃ s2' M', M'.w = w' ∧ (e = (finSL a y).1 ∧ Rel (finSL a y).2 s2') ∧ Gam M0 nt s2' M' a') n act M.w := by
      intro n
      induction n with
      | zero => intro x s' M act _ h; cases h
      | succ n ih =>
        intro x s' M act r h gm
        rw [rounds_succ]
        unfold iterO at h
        cases hbx : body x with
        | none => rw [hbx] at h; cases h
        | some o =>
          rw [hbx] at h
          have hw := evC_sound (J := J) (N := N) (base := base) hΘ hm hty hC c _ s' (endL a) o hG r ((hb x).trans hbx) (K := fun e s2' => e = (finSL a o).1 ∧ Rel (finSL a o).2 (frzSt s2' allD)) fun e s2 s2' r2 h2 => endL_ok hok r2 h2
          refine wp_mono (wpcX_sound hΘ hm c _ s' hw M0 M act gm) ?_
          rintro e a' w' ⟨s3', M3', rfl, ⟨he, r2⟩, g3'⟩
          have g' := g3'.freeze allD
          generalize hs2 : frzSt s3' allD = s2' at r2 g'
          have hw' : (M3'.frz2 allD).w = M3'.w := rfl
          rw [← hw']
          generalize M3'.frz2 allD = M' at g'
          cases o with
          | next x' =>
            subst he
            exact ih x' s2' M' a' r2 h g'
          | brk z =>
            obtain rfl := Option.some.inj h
            subst he
            exact ⟨s2', M', rfl, ⟨rfl, r2⟩, g'⟩
          | brk2 z =>
            obtain rfl := Option.some.inj h
            subst he
            exact ⟨s2', M', rfl, ⟨rfl, r2⟩, g'⟩
          | ret z =>
            obtain rfl := Option.some.inj h
            subst he
            exact ⟨s2', M', rfl, ⟨rfl, r2⟩, g'⟩
    exact key n x _ (M.frz2 allD) act r0 hn gm

def segsList : Code → List (Nat × Code)
  | .seq a b => segsList a ++ segsList b
  | .cond _ a b => segsList a ++ segsList b
  | .block _ c => segsList c
  | .scope c => segsList c
  | .loop c => match fstReg c with
    | some i => (i, c) :: segsList c
    | none => segsList c
  | _ => []
def lookL : List (Nat × Code) → Nat → Code
  | [], _ => .skip
  | (i, c) :: l, k => bif Nat.beq i k then c else lookL l k
def loopBody (c : Code) (k : Nat) : Code := lookL (segsList c) k
def uniqK : List (Nat × Code) → Bool
  | [] => true
  | (i, _) :: l => (l.all fun p => !Nat.beq p.1 i) && uniqK l

theorem lookL_uniq : ∀ (l : List (Nat × Code)), uniqK l = true → ∀ p ∈ l, lookL l p.1 = p.2
  | (i, c) :: l, hu, p, hp => by
    simp only [uniqK, Bool.and_eq_true, List.all_eq_true] at hu
    rcases List.mem_cons.1 hp with rfl | hp
    · simp [lookL]
    · have := hu.1 p hp
      have hb : Nat.beq i p.1 = false := by
        rw [Bool.eq_false_iff]; intro e
        have e := Nat.eq_of_beq_eq_true e
        rw [e] at this
        simp at this
      simp only [lookL, hb, cond_false]
      exact lookL_uniq l hu.2 p hp

theorem segsOK_sub {P : Program} {nt : Nat} {G : Nat → Option Seg} : ∀ c : Code, (∀ p ∈ segsList c, ∀ g, G p.1 = some g → SegOK P nt (.loop p.2) g) → SegsOK P nt G c
  | .seq a b, h => ⟨segsOK_sub a fun p hp => h p (by simp [segsList, hp]), segsOK_sub b fun p hp => h p (by simp [segsList, hp])⟩
  | .cond _ a b, h => ⟨segsOK_sub a fun p hp => h p (by simp [segsList, hp]), segsOK_sub b fun p hp => h p (by simp [segsList, hp])⟩
  | .block _ c, h => segsOK_sub c h
  | .scope c, h => segsOK_sub c h
  | .loop c, h => by
    refine ⟨fun i g hi hg => ?_, segsOK_sub c fun p hp => ?_⟩
    · exact h (i, c) (by simp [segsList, hi]) g hg
    · refine h p ?_
      simp only [segsList]
      split
      · exact List.mem_cons_of_mem _ hp
      · exact hp
  | .skip, _ => trivial
  | .label _, _ => trivial
  | .ret, _ => trivial
  | .exit _, _ => trivial
  | .region _ _ _, _ => trivial
  | .rangeFunc _ _ _ _, _ => trivial
  | .goto _, _ => trivial
  | .refuse _, _ => trivial

def glist : List (Nat × Seg) → Nat → Option Seg
  | [], _ => none
  | (i, g) :: l, k => bif Nat.beq i k then some g else glist l k

theorem glist_mem : ∀ {l : List (Nat × Seg)} {k : Nat} {g : Seg}, glist l k = some g → (k, g) ∈ l
  | (i, s) :: l, k, g, h => by
    unfold glist at h
    cases hb : Nat.beq i k with
    | true =>
      rw [hb] at h
      have e := Nat.eq_of_beq_eq_true hb
      subst e
      obtain rfl := Option.some.inj h
      simp
    | false => rw [hb] at h; exact List.mem_cons_of_mem _ (glist_mem h)

def SegsAll (P : Program) (nt : Nat) (code : Code) : List (Nat × Seg) → Prop
  | [] => True
  | q :: l => SegOK P nt (.loop (loopBody code q.1)) q.2 ∧ SegsAll P nt code l
theorem SegsAll.mem {P : Program} {nt : Nat} {code : Code} : ∀ {l : List (Nat × Seg)}, SegsAll P nt code l → ∀ q ∈ l, SegOK P nt (.loop (loopBody code q.1)) q.2
  | q :: l, h, p, hp => by
    rcases List.mem_cons.1 hp with rfl | hp
    · exact h.1
    · exact SegsAll.mem h.2 p hp

theorem segsOK_g {P : Program} {nt : Nat} {code : Code} {l : List (Nat × Seg)} (hu : uniqK (segsList code) = true) (h : SegsAll P nt code l) : SegsOK P nt (glist l) code :=
  segsOK_sub code fun p hp g hg => by
    have := h.mem (p.1, g) (glist_mem hg)
    have e : loopBody code p.1 = p.2 := lookL_uniq _ hu p hp
    simp only at this
    rwa [e] at this

theorem fstReg_look {code : Code} {k : Nat} {c : Code} (h : loopBody code k = c) : loopBody code k = c := h
/-- The segments within a loop's body are those of the whole. -/
theorem segsOK_in {P : Program} {nt : Nat} {code : Code} {G : Nat → Option Seg} (h : SegsOK P nt G code) (k : Nat) : SegsOK P nt G (loopBody code k) := by
  have key : ∀ (c : Code), SegsOK P nt G c → ∀ p ∈ segsList c, SegsOK P nt G p.2 := by
    intro c
    induction c with
    | seq a b iha ihb =>
      intro h p hp
      simp only [segsList, List.mem_append] at hp
      rcases hp with hp | hp
      · exact iha h.1 p hp
      · exact ihb h.2 p hp
    | cond _ a b iha ihb =>
      intro h p hp
      simp only [segsList, List.mem_append] at hp
      rcases hp with hp | hp
      · exact iha h.1 p hp
      · exact ihb h.2 p hp
    | block _ c ih => intro h p hp; exact ih h p hp
    | scope c ih => intro h p hp; exact ih h p hp
    | loop c ih =>
      intro h p hp
      simp only [segsList] at hp
      split at hp
      · rcases List.mem_cons.1 hp with rfl | hp
        · exact h.2
        · exact ih h.2 p hp
      · exact ih h.2 p hp
    | _ => intro h p hp; simp [segsList] at hp
  have look : ∀ (l : List (Nat × Code)), (∀ p ∈ l, SegsOK P nt G p.2) → SegsOK P nt G (lookL l k) := by
    intro l
    induction l with
    | nil => intro _; trivial
    | cons p l ih =>
      obtain ⟨i, c⟩ := p
      intro hl
      simp only [lookL]
      cases Nat.beq i k with
      | true => exact hl (i, c) (by simp)
      | false => exact ih fun p hp => hl p (by simp [hp])
  exact look _ (key code h)
end
end Go.Proofs.Ytnonimnhninafaa.Ab
