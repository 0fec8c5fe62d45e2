/- All operations that call no function. -/
import Derived.Test.YtnonimnhninafaaAbSound5
namespace Go.Proofs.Ytnonimnhninafaa.Ab
open Go

theorem upd_self {α : Type} (f : Nat → α) (a : Nat) : upd f a (f a) = f := by
  funext b; simp only [upd]; split <;> simp_all

section
variable {P : Program} {Θ : Tab} (hΘ : TabOK P Θ) {Φ : Base} {M : Mem}

include hΘ in
theorem copy_sound (ok : MemOK M) (fr : Fr Φ M) {t u ty : TypeId} {x y : Tr} {vx vy : Value} {f : Eff} (hx : VR M x vx) (hy : VR M y vy) (h : aCopy Θ M.H t x y = some f) :
    ∃ v M', (Builtin.copy_ #[t, u] ty #[vx, vy]).run P M.w = .ok v M'.w ∧ M'.H = f.heap M.H ∧ MemOK M' ∧ Fr Φ M' ∧ Mono M M' ∧ VR M' f.val v := by
  unfold aCopy at h
  split at h
  · rename_i ti hti
    split at h
    · rename_i e hk
      have hu := (hΘ t ti hti).und
      rw [hk] at hu
      split at h
      · rename_i ei d g lo len hei
        split at h
        · rename_i g' e' s xs ys hd hys
          split at h
          · rename_i hc
            obtain ⟨rfl, rfl, hle⟩ := hc
            obtain rfl := Option.some.inj h
            obtain ⟨inf, h1, h2, h3⟩ := tab_size hΘ hei
            obtain ⟨a, cap, news, rfl, hcap, hnil, hyw, hnl, hnews, hnh⟩ := elems_sound ok hy hys
            have hyl : (leavesL ys).length = news.length := by rw [hnl, leavesL_length ys ((wfL_iff _).2 fun z hz => (hyw z hz).1), sum_size_const ei.size ys (fun z hz => (hyw z hz).2), Nat.mul_comm]
            have ho := hx.own_inv hd
            have hob := ok.objs d
            have hlive : Live M d := by unfold Live; rw [hd]; simp
            unfold ObjR at hob
            rw [hd] at hob
            obtain ⟨h0, hws, hob⟩ := hob
            have hsame : ys.take len = [] → MemOK M ∧ Fr Φ M ∧ Mono M M ∧ M.H = Eff.heap ⟨.int .i64 (min ys.length len : Nat), some (d, g', .row e' ei.size (splice xs lo (ys.take len)))⟩ M.H := fun hz => by
              refine ⟨ok, fr, Mono.refl M, ?_⟩
              have : splice xs lo (ys.take len) = xs := by rw [hz]; simp [splice]
              simp only [Eff.heap, this, ← hd, upd_self]
            have hmin : Nat.min ys.length len = (ys.take len).length := by rw [List.length_take]; exact Nat.min_comm _ _
            have e0 : ∀ (vx : Value), vx = .slice none 0 0 ∨ (∃ ad cp, vx = .slice (some ad) len cp) → (ys.take len) = [] → (vx = .slice none 0 0 → len = 0) → (Builtin.copy_ #[t, u] ty #[vx, .slice a ys.length cap]).run P M.w = .ok (.int .i64 (min ys.length len : Nat)) M.w := by
              intro vx hvx hz hv0
              have hmz : Nat.min ys.length len = 0 := by rw [hmin, hz]; rfl
              have hmz' : min ys.length len = 0 := hmz
              rcases hvx with rfl | ⟨ad, cp, rfl⟩
              · have := hv0 rfl
                subst this
                cases a <;> simp [Builtin.copy_, run_underlying hu, Builtin.lenOf, sizeOf, typeInfo, h1, Builtin.firstCells, loadCells, loadCellsFrom, goInt]
              · cases a <;> simp [Builtin.copy_, run_underlying hu, Builtin.lenOf, sizeOf, typeInfo, h1, Builtin.firstCells, hmz', loadCells, loadCellsFrom, goInt, storeCells]
            unfold OwnV at ho
            cases hβ : M.β d with
            | none =>
              rw [hβ] at ho
              obtain ⟨rfl, rfl, rfl⟩ := ho
              obtain ⟨k1, k2, k3, k4⟩ := hsame (by simp)
              exact ⟨_, M, e0 _ (.inl rfl) (by simp) (fun _ => rfl), k4, k1, k2, k3, .int _ _⟩
            | some bK =>
              obtain ⟨b, K⟩ := bK
              rw [hβ] at ho hob
              obtain ⟨ad, rfl, hK, had⟩ := ho
              obtain ⟨c, hcb, hcs, hxK, hKm, hl⟩ := hob
              by_cases hz : ys.take len = []
              · obtain ⟨k1, k2, k3, k4⟩ := hsame hz
                exact ⟨_, M, e0 _ (.inr ⟨_, _, rfl⟩) hz (fun h => by cases h), k4, k1, k2, k3, .int _ _⟩
              · have hpos : 0 < (ys.take len).length := List.length_pos_iff.2 hz
                have hlen0 : 0 < len := by simp at hpos; omega
                have hylen : 0 < ys.length := by simp at hpos; omega
                obtain rfl := had (by omega)
                cases a with
                | none => have := hnil rfl; omega
                | some ay =>
                  let n := (ys.take len).length
                  have hnle : n ≤ ys.length := by simp only [n, List.length_take]; omega
                  have hnle2 : n ≤ len := by simp only [n, List.length_take]; omega
                  have hnsz : n * ei.size ≤ ys.length * ei.size := Nat.mul_le_mul_right _ hnle
                  let cs : List Value := news.take (n * ei.size)
                  have hcsl : cs.length = n * ei.size := by simp [cs]; omega
                  have hcell : ∀ (j : Nat) v, cs[j]? = some v → M.w.cell? (ay.add j) = some v := by
                    intro j v hj
                    simp only [cs, List.getElem?_take] at hj
                    split at hj
                    · obtain ⟨ad', q1, q2⟩ := hnews j v hj
                      obtain rfl := Option.some.inj q1
                      exact q2
                    · cases hj
                  have hf := run_firstCells_some (P := P) M.w ei.size n ay ys.length cap cs hcsl hcell
                  have hone : ∀ v ∈ cs, v.oneCell' = true := by
                    intro v hv
                    have hv' := List.mem_of_mem_take hv
                    obtain ⟨j, hj, rfl⟩ := List.mem_iff_getElem.1 hv'
                    have hjl : j < (leavesL ys).length := by omega
                    have := hnh j _ (List.getElem?_eq_getElem hjl)
                    obtain ⟨lw, ll⟩ := leavesL_wf ys ((wfL_iff _).2 fun z hz => (hyw z hz).1) _ (List.getElem_mem hjl)
                    have e1 : news.toArray.getD j undef = news[j] := by simp [Array.getD_eq_getD_getElem?, hj]
                    rw [e1] at this
                    exact this.one lw ll
                  have hbd : (lo + len) * ei.size ≤ K * ei.size := Nat.mul_le_mul_right _ hK
                  have hbd2 : n * ei.size ≤ len * ei.size := Nat.mul_le_mul_right _ hnle2
                  rw [Nat.add_mul] at hbd
                  have hst := run_storeCells_at P b (lo * ei.size) e' cs 0 c M.w hcb (by omega) hone
                  simp only [Nat.add_zero] at hst
                  let c' : Array Value := (c.toList.take (lo * ei.size) ++ cs ++ c.toList.drop (lo * ei.size + cs.length)).toArray
                  have hcsz : c'.size = c.size := by simp [c']; omega
                  have hos : ObjSame (M.H d).2 (.row e' ei.size (splice xs lo (ys.take len))) := fun e1 s1 x1 h => by rw [hd]; cases h; exact ⟨xs, rfl⟩
                  have hm := Mem.writeAt_mono ok d b K (.row e' ei.size (splice xs lo (ys.take len))) c' hlive hβ hos
                  have hmin' : Nat.min ys.length len = n := hmin
                  refine ⟨.int .i64 (n : Nat), M.writeAt d b (.row e' ei.size (splice xs lo (ys.take len))) c', ?_, ?_, Mem.writeAt_ok ok d b K _ _ hlive hβ hos ?_, fr.writeAt d b K _ _ hlive hβ, hm, ?_⟩
                  · simp only [Builtin.copy_, List.getElem?_toArray, List.getElem?_cons_zero, List.getElem?_cons_succ, Sem.run_bind, run_underlying hu, Result.andThen_ok, Builtin.lenOf, Sem.run_pure, run_sizeOf hΘ hei, hmin', hf]
                    simp only [hst, Result.andThen_ok]
                    rfl
                  · simp [Mem.writeAt, Eff.heap, hd]
                  · unfold ObjR
                    simp only [Mem.writeAt, upd_same]
                    refine ⟨h0, fun z hz => ?_, ?_⟩
                    · simp only [splice, List.mem_append] at hz
                      rcases hz with hz | hz | hz
                      · exact hws z (List.mem_of_mem_take hz)
                      · exact hyw z (List.mem_of_mem_take hz)
                      · exact hws z (List.mem_of_mem_drop hz)
                    · rw [hβ]
                      refine ⟨c', setRow_heap _ _ _ _ _ _ hcb, by omega, by rw [length_splice _ _ _ (by omega)]; exact hxK, hKm, ?_⟩
                      have hh : Holds M (leavesL (splice xs lo (ys.take len))) c' := by
                        have hxl : (leavesL xs).length = xs.length * ei.size := by rw [leavesL_length xs ((wfL_iff _).2 fun z hz => (hws z hz).1), sum_size_const ei.size xs (fun z hz => (hws z hz).2), Nat.mul_comm]
                        have hlt : (leavesL (ys.take len)).length = n * ei.size := by
                          rw [leavesL_length _ (wfL_take ((wfL_iff _).2 fun z hz => (hyw z hz).1) _), sum_size_const ei.size _ (fun z hz => (hyw z (List.mem_of_mem_take hz)).2), Nat.mul_comm]
                        have e1 : leavesL (splice xs lo (ys.take len)) = (leavesL xs).take (lo * ei.size) ++ (leavesL (ys.take len) ++ (leavesL xs).drop (lo * ei.size + (leavesL (ys.take len)).length)) := by
                          rw [splice, leavesL_append, leavesL_append, leavesL_take ei.size xs hws lo (by omega), leavesL_drop ei.size xs hws _ (by omega), hlt, Nat.add_mul]
                        rw [e1]
                        refine Holds.splice (vs := cs.toArray) hl ?_ ?_ (by simp; omega) (by simp [hcsl, hlt]) ?_
                        · intro j l hj
                          rw [leavesL_take' ei.size ys hyw len, List.getElem?_take] at hj
                          split at hj
                          · have := hnh j l hj
                            have hjn : j < n * ei.size := by
                              rename_i hjl
                              rcases Nat.lt_or_ge len ys.length with h' | h'
                              · have : n = len := by simp only [n, List.length_take]; omega
                                rw [this]; exact hjl
                              · have : n = ys.length := by simp only [n, List.length_take]; omega
                                rw [this]
                                have := (List.getElem?_eq_some_iff.1 hj).1
                                omega
                            simp only [cs, Array.getD_eq_getD_getElem?, List.getElem?_toArray, List.getElem?_take, if_pos hjn] at this ⊢
                            exact this
                          · cases hj
                        · rw [hxl]; exact Nat.mul_le_mul_right _ (by omega)
                        · intro j
                          have := splice_get c cs (lo * ei.size) (by omega) j
                          simpa [c'] using this
                      exact hh.mono hm
                  · have : min ys.length len = n := hmin
                    rw [this]
                    exact .int _ _
          · cases h
        · cases h
      · cases h
    · cases h
  · cases h

include hΘ in
theorem len_sound {t ty : TypeId} {x r : Tr} {v : Value} (hx : VR M x v) (h : aLen Θ M.H t x = some r) : ∃ u, (Builtin.len_ #[t] ty #[v]).run P M.w = .ok u M.w ∧ VR M r u := by
  unfold aLen at h
  split at h
  · rename_i ti hti
    have hu := (hΘ t ti hti).und
    split at h
    · rename_i s hk
      rw [hk] at hu
      obtain rfl := Option.some.inj h
      obtain rfl := hx.str_inv
      exact ⟨_, by simp [Builtin.len_, run_underlying hu, goInt], .int _ _⟩
    · rename_i e sz xs hk
      rw [hk] at hu
      obtain rfl := Option.some.inj h
      obtain ⟨a, cap, vs, rfl, _⟩ := hx.sl_inv
      exact ⟨_, by simp [Builtin.len_, run_underlying hu, goInt], .int _ _⟩
    · rename_i e d g lo n hk
      rw [hk] at hu
      split at h
      · rename_i g' e' s xs hd
        split at h
        · rename_i hg
          subst hg
          obtain rfl := Option.some.inj h
          have ho := hx.own_inv hd
          unfold OwnV at ho
          have : ∃ a c, v = .slice a n c := by
            cases hβ : M.β d with
            | none => rw [hβ] at ho; obtain ⟨rfl, _, rfl⟩ := ho; exact ⟨none, 0, rfl⟩
            | some bK => rw [hβ] at ho; obtain ⟨ad, rfl, _⟩ := ho; exact ⟨_, _, rfl⟩
          obtain ⟨a, c, rfl⟩ := this
          exact ⟨_, by simp [Builtin.len_, run_underlying hu, goInt], .int _ _⟩
        · cases h
      · cases h
    · rename_i e hk
      rw [hk] at hu
      obtain rfl := Option.some.inj h
      obtain rfl := hx.nils_inv
      exact ⟨_, by simp [Builtin.len_, run_underlying hu, goInt], .int _ _⟩
    · rename_i n e hk
      rw [hk] at hu
      obtain rfl := Option.some.inj h
      exact ⟨_, by simp [Builtin.len_, run_underlying hu.1, goInt], .int _ _⟩
    · rename_i a hk
      rw [hk] at hu
      split at h
      · rename_i ai hai
        split at h
        · rename_i n e hk2
          have hu2 := (hΘ a ai hai).und
          rw [hk2] at hu2
          obtain rfl := Option.some.inj h
          exact ⟨_, by simp [Builtin.len_, run_underlying hu, run_underlying hu2.1, goInt], .int _ _⟩
        · cases h
      · cases h
    · cases h
  · cases h

theorem OpOK.of_run {x : Sem Value} {val : Tr} {H' : Heap} {v : Value} {M' : Mem} (hr : x.run P M.w = .ok v M'.w) (hH : M'.H = H') (ok : MemOK M') (fr : Fr Φ M') (hm : Mono M M') (hv : VR M' val v) :
    OpOK P Φ M (do pure (.value (← x)) : Sem Next) val H' :=
  ⟨v, M', .inl (by simp only [Sem.run_bind, hr, Result.andThen_ok, Sem.run_pure]), hH, ok, fr, hm, hv⟩

theorem OpOK.of_read (ok : MemOK M) (fr : Fr Φ M) {x : Sem Value} {val : Tr} (h : ∃ v, x.run P M.w = .ok v M.w ∧ VR M val v) : OpOK P Φ M (do pure (.value (← x)) : Sem Next) val M.H :=
  let ⟨_, hr, hv⟩ := h
  .of_run hr rfl ok fr (Mono.refl M) hv

include hΘ in
theorem builtin_sound (ok : MemOK M) (fr : Fr Φ M) (L : Nat) {b : Builtin} {tys : Array TypeId} {ty : TypeId} {cs : Array Bool} {args : List Tr} {vs : Array Value} {f : Eff}
    (hs : vs.size = args.length) (hv : ∀ i x, args[i]? = some x → VR M x (vs.getD i undef)) (h : aBuiltin Θ M.H L b tys.toList args = some f) : OpOK P Φ M (builtin b tys ty cs vs) f.val (f.heap M.H) := by
  unfold aBuiltin at h
  have one : ∀ x, args = [x] → ∃ v, vs = #[v] ∧ VR M x v := by
    intro x hx
    subst hx
    obtain ⟨v, rfl⟩ := Array.size_eq_one_iff.1 (by simpa using hs)
    exact ⟨v, rfl, by simpa using hv 0 x rfl⟩
  have two : ∀ x y, args = [x, y] → ∃ v u, vs = #[v, u] ∧ VR M x v ∧ VR M y u := by
    intro x y hx
    subst hx
    obtain ⟨l⟩ := vs
    match l, hs with
    | [v, u], _ => exact ⟨v, u, rfl, by simpa using hv 0 x rfl, by simpa using hv 1 y rfl⟩
  split at h
  · rename_i t x ht
    obtain ⟨v, rfl, hx⟩ := one x rfl
    obtain ⟨r, hr, rfl⟩ := Option.map_eq_some_iff.1 h
    have ht' : tys = #[t] := by rw [← Array.toArray_toList (xs := tys), ht]
    subst ht'
    exact .of_read ok fr (len_sound hΘ hx hr)
  · rename_i t u x y ht
    obtain ⟨v, v', rfl, hx, hy⟩ := two x y rfl
    have ht' : tys = #[t, u] := by rw [← Array.toArray_toList (xs := tys), ht]
    subst ht'
    obtain ⟨w, M', e1, e2, e3, e4, e5, e6⟩ := append_sound (ty := ty) hΘ ok fr L hx hy h
    exact .of_run e1 e2 e3 e4 e5 e6
  · rename_i t u x y ht
    obtain ⟨v, v', rfl, hx, hy⟩ := two x y rfl
    have ht' : tys = #[t, u] := by rw [← Array.toArray_toList (xs := tys), ht]
    subst ht'
    obtain ⟨w, M', e1, e2, e3, e4, e5, e6⟩ := copy_sound (u := u) (ty := ty) hΘ ok fr hx hy h
    exact .of_run e1 e2 e3 e4 e5 e6
  · rename_i x y
    obtain ⟨v, v', rfl, hx, hy⟩ := two x y rfl
    obtain ⟨r, hr, rfl⟩ := Option.map_eq_some_iff.1 h
    refine .of_read ok fr ?_
    unfold aMin at hr
    split at hr
    · split at hr
      · rename_i hk
        subst hk
        obtain rfl := Option.some.inj hr
        obtain rfl := hx.int_inv
        obtain rfl := hy.int_inv
        exact ⟨_, by simp [Builtin.min_, Builtin.min2], .int _ _⟩
      · cases hr
    · cases hr
  · rename_i x y
    obtain ⟨v, v', rfl, hx, hy⟩ := two x y rfl
    obtain ⟨r, hr, rfl⟩ := Option.map_eq_some_iff.1 h
    refine .of_read ok fr ?_
    unfold aMax at hr
    split at hr
    · split at hr
      · rename_i hk
        subst hk
        obtain rfl := Option.some.inj hr
        obtain rfl := hx.int_inv
        obtain rfl := hy.int_inv
        exact ⟨_, by simp [Builtin.max_, Builtin.max2], .int _ _⟩
      · cases hr
    · cases hr
  · cases h

theorem ofConst_vr (v : Value) : VR M (ofConst v) v := by
  cases v
  case int => exact .int _ _
  case bool => exact .bool _
  case string => exact .str _
  case nilFunc => exact .nilf
  case pointer a => cases a <;> simp [ofConst] <;> constructor
  case slice a l c =>
    simp only [ofConst]
    split
    · rename_i h
      obtain ⟨h1, rfl, rfl⟩ := h
      cases a
      · exact .nils
      · simp at h1
    · exact .any _
  case func fn first caps =>
    cases fn
    case func f =>
      simp only [ofConst]
      split
      · rename_i h
        have h1 : first = #[] := Array.eq_empty_of_size_eq_zero h.1
        have h2 : caps = #[] := Array.eq_empty_of_size_eq_zero h.2
        subst h1 h2
        exact .clo rfl (by intro i x h; simp at h)
      · exact .any _
    all_goals exact .any _
  all_goals exact .any _

theorem rdOp_vr {T : Nat → Tr} {a : Act} (hT : ∀ t, VR M (T t) (a.tmps.getD t undef)) (x : Operand) : VR M (rdOp T x) (a.eval x) := by
  cases x with
  | tmp t => exact hT t
  | const v => exact ofConst_vr v
  | global g => exact .any _
  | func f => exact .clo (vs := #[]) rfl (by intro i x h; simp at h)

include hΘ in
theorem load_sound (ok : MemOK M) {t : TypeId} {x r : Tr} {v : Value} (hx : VR M x v) (h : aLoad Θ M.H t x = some r) : ∃ u, (Instr.loadAt t v).run P M.w = .ok u M.w ∧ VR M r u := by
  unfold aLoad at h
  split at h
  · rename_i i u hi hat
    split at h
    · rename_i hc
      obtain rfl := Option.some.inj h
      obtain ⟨a, rfl, hw, hcell⟩ := aAt_sound ok hx hat
      obtain ⟨w, hr, hv⟩ := run_load_tree (P := P) hΘ hi hw hc.2.2 hc.1 hc.2.1 a hcell
      exact ⟨w, by simp only [Instr.loadAt, Instr.sureAddr, Sem.run_bind, Sem.run_pure, Result.andThen_ok, hr], hv⟩
    · cases h
  · cases h

include hΘ in
theorem aOp_sound (ok : MemOK M) (fr : Fr Φ M) {rd : Operand → Tr} {ρ : Operand → Value} (hr : ∀ x, VR M (rd x) (ρ x)) {L : Nat} {o : Oper} {f : Eff} (h : aOp Θ M.H L rd o.op = some f) :
    OpOK P Φ M (execOp ρ o) f.val (f.heap M.H) := by
  obtain ⟨dst, op, type, pos, after, guard⟩ := o
  simp only at h
  cases op
  case move x => obtain rfl := Option.some.inj h; exact .still ok fr rfl (hr x)
  case assign x => obtain rfl := Option.some.inj h; exact .still ok fr rfl (hr x)
  case pick c a b =>
    simp only [aOp] at h
    split at h
    · rename_i c' hc
      obtain rfl := Option.some.inj h
      have h1 := hr c
      rw [hc] at h1
      have h2 := h1.bool_inv
      refine .still (v := if c' = true then ρ a else ρ b) ok fr (by simp [execOp, h2, asBool]) ?_
      cases c'
      · exact hr b
      · exact hr a
    · cases h
  case alloc t =>
    simp only [aOp] at h
    split at h
    · rename_i i hi
      split at h
      · rename_i hg
        obtain rfl := Option.some.inj h
        obtain ⟨hzw, hzs, inf, z, h1, hz, h2, h3, hzc, hzh⟩ := zero_ok hΘ hi hg
        obtain ⟨M', e1, e2, e3, e4, e5, e6⟩ := newVar_sound (P := P) ok fr L (t := t) (v := z) hzw (by omega) (hzh M)
        refine .of_run (v := .pointer (some ⟨M.w.heap.size, 0, none⟩)) ?_ e2 e3 e4 e5 e6
        simp only [Instr.alloc, Sem.run_bind, zeroValue, typeInfo, run_program, Result.andThen_ok, h1, Sem.run_pure, hz, e1]
      · cases h
    · cases h
  case box t x =>
    simp only [aOp] at h
    split at h
    · rename_i hg
      obtain rfl := Option.some.inj h
      obtain ⟨hcs, hcl⟩ := (hr x).cells hg
      obtain ⟨M', e1, e2, e3, e4, e5, e6⟩ := newVar_sound (P := P) ok fr L (t := t) (good_wf (hr x) hg) hcs hcl
      refine .of_run (v := .pointer (some ⟨M.w.heap.size, 0, none⟩)) ?_ e2 e3 e4 e5 e6
      simp only [Instr.box, Sem.run_bind, Result.andThen_ok, Sem.run_pure, e1]
    · cases h
  case build t ps =>
    simp only [aOp] at h
    split at h
    · rename_i i hi
      split at h
      · rename_i hg
        obtain ⟨val, hb, rfl⟩ := Option.map_eq_some_iff.1 h
        exact .of_read ok fr (build_sound hΘ hi hg hr ps hb)
      · cases h
    · cases h
  case buildSlice t len ps =>
    simp only [aOp] at h
    split at h
    · rename_i i hi
      split at h
      · rename_i e hk
        split at h
        · rename_i ei hei
          split at h
          · rename_i hc
            split at h
            · rename_i xs hxs
              obtain rfl := Option.some.inj h
              obtain ⟨v, M', e1, e2, e3, e4, e5, e6⟩ := buildSlice_sound hΘ ok fr L hi hk hei hc.1 hc.2.1 len hc.2.2 hr ps hxs
              exact .of_run e1 e2 e3 e4 e5 e6
            · cases h
          · cases h
        · cases h
      · cases h
    · cases h
  case load t x =>
    simp only [aOp] at h
    obtain ⟨r, hl, rfl⟩ := Option.map_eq_some_iff.1 h
    exact .of_read ok fr (load_sound hΘ ok (hr x) hl)
  case store t x v =>
    simp only [aOp] at h
    obtain ⟨M', e1, e2, e3, e4, e5, e6⟩ := store_sound (P := P) hΘ ok fr (hr x) (hr v) h
    refine ⟨undef, M', .inr ⟨?_, rfl⟩, e2, e3, e4, e5, by rw [e6]; exact .any _⟩
    simp only [execOp, Sem.run_bind, e1, Result.andThen_ok, Sem.run_pure]
  case nilCheck x =>
    simp only [aOp] at h
    have h1 := hr x
    split at h
    · rename_i d g p off hx
      split at h
      · rename_i hg
        obtain rfl := Option.some.inj h
        rw [hx] at h1
        obtain ⟨b, K, hb, hv⟩ := h1.ptr_inv hg
        refine .still (v := ρ x) ok fr (by simp only [execOp, hv, Sem.run_pure]) h1
      · cases h
    · rename_i y hx
      obtain rfl := Option.some.inj h
      rw [hx] at h1
      obtain ⟨a, vs, hv, _⟩ := h1.iptr_inv
      refine .still (v := ρ x) ok fr (by simp only [execOp, hv, Sem.run_pure]) h1
    · cases h
  case binOp op t x y ty =>
    simp only [aOp] at h
    obtain ⟨r, hl, rfl⟩ := Option.map_eq_some_iff.1 h
    exact .of_read ok fr (bin_sound hΘ hl (hr x) (hr y) x y)
  case unOp op t x =>
    simp only [aOp] at h
    obtain ⟨r, hl, rfl⟩ := Option.map_eq_some_iff.1 h
    exact .of_read ok fr (un_sound hl (hr x))
  case convert s t x =>
    simp only [aOp] at h
    split at h
    · rename_i si hsi
      obtain ⟨r, hl, rfl⟩ := Option.map_eq_some_iff.1 h
      exact .of_read ok fr (conv_sound hΘ ⟨_, hsi⟩ hl (hr x))
    · cases h
  case makeFunc fn first caps =>
    cases fn
    case func f' =>
      simp only [aOp] at h
      split at h
      · rename_i h0
        obtain rfl := Option.some.inj h
        have hf : first = #[] := Array.eq_empty_of_size_eq_zero h0
        subst hf
        refine .still ok fr (v := .func (.func f') #[] (caps.map ρ)) (by simp [execOp, Instr.makeFunc]) (.clo (by simp) fun i x hx => ?_)
        obtain ⟨c, hc, rfl⟩ := map_get _ _ _ _ hx
        have : (caps.map ρ).getD i undef = ρ c := by
          rw [Array.getElem?_toList] at hc
          simp [Array.getD_eq_getD_getElem?, Array.getElem?_map, hc]
        rw [this]
        exact hr c
      · cases h
    all_goals simp [aOp] at h
  case makeSlice t n m =>
    simp only [aOp] at h
    obtain ⟨v, M', e1, e2, e3, e4, e5, e6⟩ := makeSlice_sound hΘ ok fr L (hr n) (hr m) h
    exact .of_run e1 e2 e3 e4 e5 e6
  case slice t x lo hi mx =>
    cases mx
    case none =>
      simp only [aOp] at h
      obtain ⟨r, hl, rfl⟩ := Option.map_eq_some_iff.1 h
      refine .of_read ok fr (slice_sound hΘ (hr x) (lo := lo.map rd) (hi := hi.map rd) ?_ ?_ ?_ ?_ hl)
      · intro t ht
        obtain ⟨y, hy, rfl⟩ := Option.map_eq_some_iff.1 ht
        exact ⟨ρ y, by rw [hy]; rfl, hr y⟩
      · intro ht; cases lo <;> simp_all
      · intro t ht
        obtain ⟨y, hy, rfl⟩ := Option.map_eq_some_iff.1 ht
        exact ⟨ρ y, by rw [hy]; rfl, hr y⟩
      · intro ht; cases hi <;> simp_all
    case some m => simp [aOp] at h
  case fieldAddr t x i =>
    simp only [aOp] at h
    obtain ⟨r, hl, rfl⟩ := Option.map_eq_some_iff.1 h
    exact .of_read ok fr (fieldAddr_sound hΘ (hr x) hl)
  case field t x i =>
    simp only [aOp] at h
    obtain ⟨r, hl, rfl⟩ := Option.map_eq_some_iff.1 h
    exact .of_read ok fr (field_sound hΘ (hr x) hl)
  case indexAddr t x i =>
    simp only [aOp] at h
    obtain ⟨r, hl, rfl⟩ := Option.map_eq_some_iff.1 h
    exact .of_read ok fr (indexAddr_sound hΘ (hr x) (hr i) hl)
  case index t x i =>
    simp only [aOp] at h
    obtain ⟨r, hl, rfl⟩ := Option.map_eq_some_iff.1 h
    exact .of_read ok fr (index_sound hΘ (hr x) (hr i) hl)
  case extract x i =>
    simp only [aOp] at h
    split at h
    · rename_i xs hx
      obtain ⟨r, hl, rfl⟩ := Option.map_eq_some_iff.1 h
      have h1 := hr x
      rw [hx] at h1
      obtain ⟨vs, hv, hs, hvl⟩ := h1.tup_inv
      refine .of_read ok fr ⟨vs.getD i undef, ?_, hvl i r hl⟩
      have hi : i < vs.size := by have := (List.getElem?_eq_some_iff.1 hl).1; omega
      simp [Instr.extract, hv, hi]
    · cases h
  case call c =>
    obtain ⟨callee, args, argTypes⟩ := c
    cases callee
    case builtin b =>
      simp only [aOp] at h
      have key : ∀ cs, OpOK P Φ M (builtin b argTypes type cs (args.map ρ)) f.val (f.heap M.H) := fun cs => builtin_sound (P := P) (ty := type) (cs := cs) (vs := args.map ρ) hΘ ok fr L (by simp) (fun i x hx => by
        obtain ⟨c, hc, rfl⟩ := map_get _ _ _ _ hx
        have : (args.map ρ).getD i undef = ρ c := by
          rw [Array.getElem?_toList] at hc
          simp [Array.getD_eq_getD_getElem?, Array.getElem?_map, hc]
        rw [this]
        exact hr c) h
      unfold OpOK at key ⊢
      simp only [execOp, resolve, Sem.run_bind, Sem.run_pure, Result.andThen_ok, invoke]
      exact key _
    all_goals simp [aOp] at h
  all_goals simp [aOp] at h

end
end Go.Proofs.Ytnonimnhninafaa.Ab
