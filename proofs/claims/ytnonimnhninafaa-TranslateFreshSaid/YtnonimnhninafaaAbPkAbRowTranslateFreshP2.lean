/- What a memory is: the loops of Right, has and upTo. -/
import Derived.Test.YtnonimnhninafaaAbPkAbRowTranslateFreshP1

namespace Go.Proofs.Ytnonimnhninafaa.Ab
open Go
set_option linter.unusedVariables false
set_option linter.unusedSimpArgs false
namespace PL

theorem capOK_le {n b m : Nat} (h : n ≤ m) (hm : capOK m b = true) : capOK n b = true := by
  simp only [capOK, Bool.and_eq_true, Nat.ble_eq] at hm ⊢
  exact ⟨Nat.le_trans (Nat.mul_le_mul_right b h) hm.1, by omega⟩

theorem idx {l : List Int} {i : Nat} (hi : i < l.length) : List.getD l (Int.toNat (i : Int)) (dflt (Ty.int IntKind.i64)) = l[i] := by rw [Int.toNat_natCast]; exact getD_of (List.getElem?_eq_getElem hi)
theorem inc {i : Nat} (h : i < 4611686018427387904) : IntKind.wrap IntKind.i64 ((i : Int) + 1) = ((i + 1 : Nat) : Int) := by rw [wrap64 (by omega) (by omega)]; rfl
theorem lt_tt {i n : Nat} (h : i < n) : decide ((i : Int) < (Nat.cast n : Int)) = true := by simp; omega
theorem lt_ff {i n : Nat} (h : n ≤ i) : decide ((i : Int) < (Nat.cast n : Int)) = false := by simp; omega
theorem ge0 (i : Nat) : decide ((0 : Int) ≤ (i : Int)) = true := by simp

theorem mem_loop {a b : List Int} (hm : a.length ≤ 512) : ∀ (k i fuel : Nat), k + i = a.length → k < fuel →
    iterO X.R08_Right_b4 fuel ((a, (b, ((i : Int), ()))), ()) = some (.brk ((a, (b, ())), ())) ∨ iterO X.R08_Right_b4 fuel ((a, (b, ((i : Int), ()))), ()) = some (.ret ((false, ()), ()))
  | 0, i, fuel + 1, hk, _ => by
    refine .inl (it_brk ?_)
    unfold X.R08_Right_b4
    simp only [lt_ff (show a.length ≤ i by omega), cond_false]
  | k + 1, i, fuel + 1, hk, hf => by
    have hi : i < a.length := by omega
    have hb : X.R08_Right_b4 ((a, (b, ((i : Int), ()))), ()) = (bif decide (a[i] < 0) then some (.ret ((false, ()), ())) else bif decide (a[i] > 65535) then some (.ret ((false, ()), ())) else some (.next ((a, (b, (((i + 1 : Nat) : Int), ()))), ()))) := by
      unfold X.R08_Right_b4
      simp only [lt_tt hi, ge0, idx hi, inc (show i < 4611686018427387904 by omega), cond_true, Bool.and_self]
    cases h1 : decide (a[i] < 0) with
    | true => rw [h1] at hb; exact .inr (it_ret hb)
    | false =>
      rw [h1] at hb
      cases h2 : decide (a[i] > 65535) with
      | true => rw [h2] at hb; exact .inr (it_ret hb)
      | false =>
        rw [h2] at hb
        rw [it_next hb]
        exact mem_loop hm k (i + 1) fuel (by omega) (by omega)

def BadOK (n : Nat) (x : Int) : Prop := 0 ≤ x ∧ x < 2 * (n : Int) ∧ x % 2 = 0

theorem bad_loop {a b : List Int} (hm : a.length ≤ 512) (hn : b.length ≤ 512) : ∀ (k i fuel : Nat), k + i = b.length → k < fuel →
    (iterO X.R08_Right_b9 fuel ((a, (b, ((i : Int), ()))), ()) = some (.brk ((), ())) ∧ ∀ x ∈ b.drop i, BadOK a.length x) ∨ iterO X.R08_Right_b9 fuel ((a, (b, ((i : Int), ()))), ()) = some (.ret ((false, ()), ()))
  | 0, i, fuel + 1, hk, _ => by
    refine .inl ⟨it_brk ?_, by rw [List.drop_eq_nil_of_le (by omega)]; simp⟩
    unfold X.R08_Right_b9
    simp only [lt_ff (show b.length ≤ i by omega), cond_false]
  | k + 1, i, fuel + 1, hk, hf => by
    have hi : i < b.length := by omega
    have hw : IntKind.wrap IntKind.i64 ((2 : Int) * (Nat.cast (List.length a) : Int)) = 2 * (a.length : Int) := wrap64 (by omega) (by omega)
    have hb : ∃ g : Bool, X.R08_Right_b9 ((a, (b, ((i : Int), ()))), ()) = (bif decide (b[i] < 0) then some (.ret ((false, ()), ())) else bif decide (b[i] ≥ 2 * (a.length : Int)) then some (.ret ((false, ()), ())) else
        bif Int.tmod b[i] 2 != 0 then some (.ret ((false, ()), ())) else bif g then some (.ret ((false, ()), ())) else some (.next ((a, (b, (((i + 1 : Nat) : Int), ()))), ()))) := by
      unfold X.R08_Right_b9
      simp only [lt_tt hi, ge0, idx hi, inc (show i < 4611686018427387904 by omega), cond_true, Bool.and_self, hw]
      cases i with
      | zero => exact ⟨false, rfl⟩
      | succ i =>
        have hp : IntKind.wrap IntKind.i64 (((i + 1 : Nat) : Int) - 1) = (i : Int) := by rw [wrap64 (by omega) (by omega)]; simp
        have hg : decide (((i + 1 : Nat) : Int) > 0) = true := by simp
        have hi' : i < b.length := by omega
        refine ⟨decide (b[i + 1] ≤ b[i]), ?_⟩
        simp only [hp, hg, lt_tt hi', ge0, idx hi', cond_true, Bool.and_self]
    obtain ⟨g, hb⟩ := hb
    have d1 : b.drop i = b[i] :: b.drop (i + 1) := List.drop_eq_getElem_cons hi
    cases h1 : decide (b[i] < 0) with
    | true => rw [h1] at hb; exact .inr (it_ret hb)
    | false =>
      cases h2 : decide (b[i] ≥ 2 * (a.length : Int)) with
      | true => rw [h1, h2] at hb; exact .inr (it_ret hb)
      | false =>
        cases h3 : (Int.tmod b[i] 2 != 0) with
        | true => rw [h1, h2, h3] at hb; exact .inr (it_ret hb)
        | false =>
          cases g with
          | true => rw [h1, h2, h3] at hb; exact .inr (it_ret hb)
          | false =>
            rw [h1, h2, h3] at hb
            rw [it_next hb]
            rcases bad_loop hm hn k (i + 1) fuel (by omega) (by omega) with ⟨e, h⟩ | e
            · refine .inl ⟨e, fun x hx => ?_⟩
              rw [d1] at hx
              rcases List.mem_cons.1 hx with rfl | hx
              · simp only [decide_eq_false_iff_not, bne_eq_false_iff_eq] at h1 h2 h3
                refine ⟨by omega, by omega, ?_⟩
                rw [Int.tmod_eq_emod_of_nonneg (by omega)] at h3
                exact h3
              · exact h x hx
            · exact .inr e

theorem good_spec (a : M.Emulatorlaw21_Memory) : ∃ g, X.L21_Memory_good a = some (g, ()) ∧ (g = true → a.Mem.length ≤ 512 ∧ a.Bad.length ≤ 512 ∧ ∀ x ∈ a.Bad, BadOK a.Mem.length x) := by
  unfold X.L21_Memory_good
  by_cases h1 : a.Mem.length ≤ 512
  · have e1 : decide ((Nat.cast (List.length a.Mem) : Int) ≤ 512) = true := by simp; omega
    rw [e1]
    by_cases h2 : a.Bad.length ≤ 512
    · have e2 : decide ((Nat.cast (List.length a.Bad) : Int) ≤ 512) = true := by simp; omega
      rw [e2]
      simp only [cond_true]
      have : ∃ g, X.R08_Right a.Mem a.Bad = some (g, ()) ∧ (g = true → ∀ x ∈ a.Bad, BadOK a.Mem.length x) := by
        unfold X.R08_Right
        cases X.R08_Size (IntKind.wrap IntKind.i64 ((2 : Int) * (Nat.cast (List.length a.Mem) : Int))) with
        | false => exact ⟨false, rfl, fun h => by cases h⟩
        | true =>
          simp only [Bool.not_true, cond_false]
          unfold X.R08_Right_l4
          rcases mem_loop (b := a.Bad) h1 a.Mem.length 0 (100 + List.length a.Mem + List.length a.Bad + Int.toNat 0) (by omega) (by omega) with e | e
          · rw [show ((0 : Nat) : Int) = 0 from rfl] at e
            rw [e]
            dsimp only
            unfold X.R08_Right_l9
            rcases bad_loop h1 h2 a.Bad.length 0 (100 + List.length a.Mem + List.length a.Bad + Int.toNat 0) (by omega) (by omega) with ⟨e, h⟩ | e
            · rw [show ((0 : Nat) : Int) = 0 from rfl] at e
              rw [e]
              exact ⟨true, rfl, fun _ x hx => h x (by simpa using hx)⟩
            · rw [show ((0 : Nat) : Int) = 0 from rfl] at e
              rw [e]
              exact ⟨false, rfl, fun h => by cases h⟩
          · rw [show ((0 : Nat) : Int) = 0 from rfl] at e
            rw [e]
            exact ⟨false, rfl, fun h => by cases h⟩
      obtain ⟨g, e, h⟩ := this
      rw [e]
      exact ⟨g, rfl, fun hg => ⟨h1, h2, h hg⟩⟩
    · have e2 : decide ((Nat.cast (List.length a.Bad) : Int) ≤ 512) = false := by simp; omega
      rw [e2]
      exact ⟨false, rfl, fun h => by cases h⟩
  · have e1 : decide ((Nat.cast (List.length a.Mem) : Int) ≤ 512) = false := by simp; omega
    rw [e1]
    exact ⟨false, rfl, fun h => by cases h⟩

theorem has_loop {l : List Int} {v : Int} (hm : l.length ≤ 512) : ∀ (k i fuel : Nat), k + i = l.length → k < fuel →
    iterO X.R21_has_b2 fuel ((l, (v, ((i : Int), ()))), ()) = some (bif decide (v ∈ l.drop i) then .ret ((true, ()), ()) else .brk ((), ()))
  | 0, i, fuel + 1, hk, _ => by
    rw [List.drop_eq_nil_of_le (by omega)]
    refine it_brk ?_
    unfold X.R21_has_b2
    simp only [lt_ff (show l.length ≤ i by omega), cond_false]
  | k + 1, i, fuel + 1, hk, hf => by
    have hi : i < l.length := by omega
    have hb : X.R21_has_b2 ((l, (v, ((i : Int), ()))), ()) = (bif l[i] == v then some (.ret ((true, ()), ())) else some (.next ((l, (v, (((i + 1 : Nat) : Int), ()))), ()))) := by
      unfold X.R21_has_b2
      simp only [lt_tt hi, ge0, idx hi, inc (show i < 4611686018427387904 by omega), cond_true, Bool.and_self]
    have d1 : l.drop i = l[i] :: l.drop (i + 1) := List.drop_eq_getElem_cons hi
    by_cases h : l[i] = v
    · have : (l[i] == v) = true := by simp [h]
      rw [this] at hb
      rw [it_ret hb, decide_eq_true (by rw [d1, h]; simp)]
      rfl
    · have : (l[i] == v) = false := by simp [h]
      rw [this] at hb
      rw [it_next hb, has_loop hm k (i + 1) fuel (by omega) (by omega), d1]
      have hc : (v ∈ l.drop (i + 1)) ↔ (v ∈ l[i] :: l.drop (i + 1)) := ⟨fun h => List.mem_cons_of_mem _ h, fun hh => by rcases List.mem_cons.1 hh with e | e; exact absurd e.symm h; exact e⟩
      rw [decide_eq_decide.2 hc]

theorem has_eq {l : List Int} {v : Int} (hm : l.length ≤ 512) : X.R21_has l v = some (decide (v ∈ l), ()) := by
  unfold X.R21_has X.R21_has_l2
  have e := has_loop (v := v) hm l.length 0 (100 + List.length l + Int.toNat v + Int.toNat 0) (by omega) (by omega)
  rw [show ((0 : Nat) : Int) = 0 from rfl, List.drop_zero] at e
  rw [e]
  cases decide (v ∈ l) <;> rfl

/-- The end of the words with right parity. -/
def fE (p : Int) : List Int → Int → Int
  | [], e => e
  | b :: bs, e => fE p bs (bif (bif decide (b ≥ p) then decide (b < e) else false) then b else e)

theorem fE_spec (p : Int) : ∀ (bs : List Int) (e : Int), p ≤ e → (fE p bs e = e ∨ fE p bs e ∈ bs) ∧ fE p bs e ≤ e ∧ p ≤ fE p bs e ∧ ∀ b ∈ bs, p ≤ b → fE p bs e ≤ b
  | [], e, he => ⟨.inl rfl, Int.le_refl _, he, fun b hb => by simp at hb⟩
  | b :: bs, e, he => by
    unfold fE
    by_cases h : p ≤ b ∧ b < e
    · have hc : (bif decide (b ≥ p) then decide (b < e) else false) = true := by simp [h.1, h.2]
      rw [hc]
      obtain ⟨k1, k2, k3, k4⟩ := fE_spec p bs b h.1
      refine ⟨.inr ?_, by simp only [cond_true]; omega, k3, fun x hx hp => ?_⟩
      · rcases k1 with k1 | k1
        · rw [cond_true, k1]; simp
        · exact List.mem_cons_of_mem _ k1
      · rcases List.mem_cons.1 hx with rfl | hx
        · exact k2
        · exact k4 x hx hp
    · have hc : (bif decide (b ≥ p) then decide (b < e) else false) = false := by
        by_cases h1 : p ≤ b
        · have h2 : ¬ b < e := fun h2 => h ⟨h1, h2⟩
          simp [h2]
        · simp [h1]
      rw [hc]
      obtain ⟨k1, k2, k3, k4⟩ := fE_spec p bs e he
      refine ⟨k1.imp id (List.mem_cons_of_mem _), k2, k3, fun x hx hp => ?_⟩
      rcases List.mem_cons.1 hx with rfl | hx
      · have : ¬ x < e := fun h2 => h ⟨hp, h2⟩
        simp only [cond_false]
        omega
      · exact k4 x hx hp

theorem upTo_loop {p : Int} {l : List Int} {m : M.Machine} (hm : l.length ≤ 512) : ∀ (k i fuel : Nat) (e : Int), k + i = l.length → k < fuel →
    iterO X.translate_upTo_b5 fuel ((p, (e, (l, ((l.length : Int), ((i : Int), ()))))), (m, ())) = some (.brk ((p, (fE p (l.drop i) e, ())), (m, ())))
  | 0, i, fuel + 1, e, hk, _ => by
    rw [List.drop_eq_nil_of_le (by omega)]
    refine it_brk ?_
    unfold X.translate_upTo_b5
    simp only [lt_ff (show l.length ≤ i by omega), cond_false, fE]
  | k + 1, i, fuel + 1, e, hk, hf => by
    have hi : i < l.length := by omega
    have hb : X.translate_upTo_b5 ((p, (e, (l, ((l.length : Int), ((i : Int), ()))))), (m, ())) = some (.next ((p, ((bif (bif decide (l[i] ≥ p) then decide (l[i] < e) else false) then l[i] else e), (l, ((l.length : Int), (((i + 1 : Nat) : Int), ()))))), (m, ()))) := by
      unfold X.translate_upTo_b5
      simp only [lt_tt hi, ge0, idx hi, inc (show i < 4611686018427387904 by omega), cond_true, Bool.and_self]
      cases (bif decide (l[i] ≥ p) then decide (l[i] < e) else false) <;> rfl
    have d1 : l.drop i = l[i] :: l.drop (i + 1) := List.drop_eq_getElem_cons hi
    rw [it_next hb, upTo_loop hm k (i + 1) fuel _ (by omega) (by omega), d1]
    rfl
end PL
end Go.Proofs.Ytnonimnhninafaa.Ab

/- Words with right parity, and blocks. -/
namespace Go.Proofs.Ytnonimnhninafaa.Ab
open Go
set_option linter.unusedVariables false
set_option linter.unusedSimpArgs false
namespace PL

theorem cap512 : capOK 600 8 = true := by decide
theorem cap16 : capOK 17 112 = true := by decide

def pa (q j : Nat) : Int := ((2 * q + 2 * j : Nat) : Int)

theorem td2 (n : Nat) (h : n < 4000000) : IntKind.wrap IntKind.i64 (Int.tdiv ((2 * n : Nat) : Int) 2) = (n : Int) := by
  rw [Int.tdiv_eq_ediv_of_nonneg (by omega), wrap64 (by omega) (by omega)]; omega
theorem td64 (n : Nat) (h : n < 4000000) : IntKind.wrap IntKind.i64 (Int.tdiv (n : Int) 64) = ((n / 64 : Nat) : Int) := by
  rw [Int.tdiv_eq_ediv_of_nonneg (by omega), wrap64 (by omega) (by omega)]; omega

theorem take_snoc {l : List Int} {j : Nat} (h : j < l.length) : l.take (j + 1) = l.take j ++ [l[j]] := by
  rw [List.take_add_one, List.getElem?_eq_getElem h]; rfl

theorem words_loop {m : M.Machine} {q k : Nat} (hm : m.Mem.length ≤ 512) (hb : m.Bad.length ≤ 512) (hq : q < m.Mem.length)
    (hc : ∀ j, j < k → (2 * q + 2 * j) / 64 = (2 * q) / 64 ∧ q + j < m.Mem.length ∧ ((2 * q + 2 * j : Nat) : Int) ∉ m.Bad)
    (hs : (2 * q + 2 * k) / 64 ≠ (2 * q) / 64 ∨ m.Mem.length ≤ q + k ∨ ((2 * q + 2 * k : Nat) : Int) ∈ m.Bad) (hk : q + k ≤ m.Mem.length) : ∀ (r j fuel : Nat), r + j = k → r < fuel →
    iterO X.R21_words_b3 fuel ((((2 * q : Nat) : Int), ((m.Mem.drop q).take j, (((2 * q + 2 * j : Nat) : Int), ()))), (m, ())) = some (.brk (((m.Mem.drop q).take k, ()), ()))
  | 0, j, fuel + 1, e, _ => by
    obtain rfl : j = k := by omega
    refine it_brk ?_
    unfold X.R21_words_b3
    simp only
    have t1 := td64 (2 * q + 2 * j) (by omega)
    have t2 := td64 (2 * q) (by omega)
    have t3 : IntKind.wrap IntKind.i64 (Int.tdiv ((2 * q + 2 * j : Nat) : Int) 2) = ((q + j : Nat) : Int) := by rw [← td2 (q + j) (by omega), show 2 * (q + j) = 2 * q + 2 * j by omega]
    rw [t1, t2, t3, has_eq hb]
    by_cases h1 : (2 * q + 2 * j) / 64 = (2 * q) / 64
    · have e1 : (((2 * q + 2 * j) / 64 : Nat) : Int) == ((2 * q / 64 : Nat) : Int) := by simp [h1]
      rw [e1, cond_true]
      by_cases h2 : q + j < m.Mem.length
      · rw [lt_tt h2, cond_true]
        have h3 : ((2 * q + 2 * j : Nat) : Int) ∈ m.Bad := by
          rcases hs with h | h | h
          · exact absurd h1 h
          · omega
          · exact h
        rw [decide_eq_true h3]
        rfl
      · rw [lt_ff (by omega)]; rfl
    · have e1 : ((((2 * q + 2 * j) / 64 : Nat) : Int) == ((2 * q / 64 : Nat) : Int)) = false := by
        rw [beq_eq_false_iff_ne]; omega
      rw [e1]; rfl
  | r + 1, j, fuel + 1, e, hf => by
    obtain ⟨h1, h2, h3⟩ := hc j (by omega)
    have hb1 : X.R21_words_b3 ((((2 * q : Nat) : Int), ((m.Mem.drop q).take j, (((2 * q + 2 * j : Nat) : Int), ()))), (m, ())) = some (.next ((((2 * q : Nat) : Int), ((m.Mem.drop q).take (j + 1), (((2 * q + 2 * (j + 1) : Nat) : Int), ()))), (m, ()))) := by
      unfold X.R21_words_b3
      simp only
      have t1 := td64 (2 * q + 2 * j) (by omega)
      have t2 := td64 (2 * q) (by omega)
      have t3 : IntKind.wrap IntKind.i64 (Int.tdiv ((2 * q + 2 * j : Nat) : Int) 2) = ((q + j : Nat) : Int) := by rw [← td2 (q + j) (by omega), show 2 * (q + j) = 2 * q + 2 * j by omega]
      have t4 : IntKind.wrap IntKind.i64 (((2 * q + 2 * j : Nat) : Int) + 2) = ((2 * q + 2 * (j + 1) : Nat) : Int) := by rw [wrap64 (by omega) (by omega)]; omega
      have e1 : ((((2 * q + 2 * j) / 64 : Nat) : Int) == ((2 * q / 64 : Nat) : Int)) = true := by simp [h1]
      have hl : ((m.Mem.drop q).take j).length = j := by rw [List.length_take, List.length_drop]; omega
      have hcap : capOK (j + 1) 8 = true := capOK_le (show j + 1 ≤ 600 by omega) cap512
      have hj : j < (m.Mem.drop q).length := by rw [List.length_drop]; omega
      rw [t1, t2, t3, has_eq hb, e1, lt_tt h2, ge0, decide_eq_false h3, idx h2, t4]
      simp only [cond_true, Bool.not_false, Bool.and_self, hl, List.length_cons, List.length_nil, Nat.zero_add, hcap]
      rw [take_snoc hj, List.getElem_drop]
    rw [it_next hb1]
    exact words_loop hm hb hq hc hs hk r (j + 1) fuel (by omega) (by omega)

/-- What the words of a memory are, for both. -/
theorem words_both {m : M.Machine} {q : Nat} (hm : m.Mem.length ≤ 512) (hb : m.Bad.length ≤ 512) (ho : ∀ x ∈ m.Bad, BadOK m.Mem.length x) (hq : q < m.Mem.length) :
    ∃ k E : Nat, X.translate_upTo m ((2 * q : Nat) : Int) = some ((m.Mem.drop q).take k, ()) ∧ X.R21_words m ((2 * q : Nat) : Int) = some ((m.Mem.drop q).take k, ()) ∧ q + k ≤ m.Mem.length ∧ (m.Bad = [] → q + k = min ((2 * q) / 64 * 32 + 32) m.Mem.length) := by
  have hp : (0 : Int) ≤ ((2 * q : Nat) : Int) := by omega
  have hE0 : IntKind.wrap IntKind.i64 ((IntKind.wrap IntKind.i64 (((2 * q : Nat) : Int) - (Int.tmod ((2 * q : Nat) : Int) 64))) + 64) = ((2 * q / 64 * 64 + 64 : Nat) : Int) := by
    rw [Int.tmod_eq_emod_of_nonneg hp, wrap64 (x := ((2 * q : Nat) : Int) - ((2 * q : Nat) : Int) % 64) (by omega) (by omega), wrap64 (by omega) (by omega)]; omega
  obtain ⟨k1, k2, k3, k4⟩ := fE_spec ((2 * q : Nat) : Int) m.Bad ((2 * q / 64 * 64 + 64 : Nat) : Int) (by omega)
  have hEv : ∃ E : Nat, fE ((2 * q : Nat) : Int) m.Bad ((2 * q / 64 * 64 + 64 : Nat) : Int) = ((2 * E : Nat) : Int) := by
    rcases k1 with k1 | k1
    · exact ⟨2 * q / 64 * 32 + 32, by rw [k1]; omega⟩
    · obtain ⟨b1, b2, b3⟩ := ho _ k1
      exact ⟨(fE ((2 * q : Nat) : Int) m.Bad ((2 * q / 64 * 64 + 64 : Nat) : Int) / 2).toNat, by omega⟩
  obtain ⟨E, hE⟩ := hEv
  rw [hE] at k1 k2 k3 k4
  refine ⟨min E m.Mem.length - q, E, ?_, ?_, by omega, fun hnil => ?_⟩
  · unfold X.translate_upTo
    have c1 : decide (((2 * q : Nat) : Int) < 0) = false := by simp <;> omega
    have c2 : (Int.tmod ((2 * q : Nat) : Int) 2 != 0) = false := by rw [Int.tmod_eq_emod_of_nonneg hp]; simp
    have c3 : decide (((q : Nat) : Int) ≥ (Nat.cast (List.length m.Mem) : Int)) = false := by simp <;> omega
    rw [c1, c2, td2 q (by omega), c3, hE0]
    simp only [cond_false]
    unfold X.translate_upTo_l5
    have e := upTo_loop (p := ((2 * q : Nat) : Int)) (m := m) hb m.Bad.length 0 (100 + Int.toNat ((2 * q : Nat) : Int) + Int.toNat ((2 * q / 64 * 64 + 64 : Nat) : Int) + List.length m.Bad + Int.toNat (m.Bad.length : Int) + Int.toNat 0 + List.length m.Mem + List.length m.Bad + List.length m.Lines + List.length m.Tape.Records) ((2 * q / 64 * 64 + 64 : Nat) : Int) (by omega) (by omega)
    rw [List.drop_zero, hE] at e
    rw [show ((0 : Nat) : Int) = 0 from rfl] at e
    rw [e]
    dsimp only
    rw [td2 q (by omega), td2 E (by omega)]
    have g1 : Min.min ((E : Nat) : Int) (Nat.cast (List.length m.Mem) : Int) = ((min E m.Mem.length : Nat) : Int) := by omega
    rw [g1]
    have g2 : (decide ((0 : Int) ≤ (q : Int)) && (decide ((q : Int) ≤ ((min E m.Mem.length : Nat) : Int)) && decide (((min E m.Mem.length : Nat) : Int) ≤ (Nat.cast (List.length m.Mem) : Int)))) = true := by
      simp only [Bool.and_eq_true, decide_eq_true_eq]; omega
    rw [g2, cond_true, Int.toNat_natCast, Int.toNat_natCast, List.drop_take]
  · unfold X.R21_words X.R21_words_l3
    have e := words_loop (m := m) (q := q) (k := min E m.Mem.length - q) hm hb hq (fun j hj => ⟨by omega, by omega, fun hmem => ?_⟩) ?_ (by omega) (min E m.Mem.length - q) 0
      (100 + Int.toNat ((2 * q : Nat) : Int) + List.length ([] : List Int) + Int.toNat ((2 * q : Nat) : Int) + List.length m.Mem + List.length m.Bad + List.length m.Lines + List.length m.Tape.Records) (by omega) (by omega)
    · rw [List.take_zero, Nat.mul_zero, Nat.add_zero] at e
      rw [e]
    · have := k4 _ hmem (by omega)
      omega
    · by_cases h : E ≤ m.Mem.length
      · have h0 : 2 * q + 2 * (min E m.Mem.length - q) = 2 * E := by omega
        rw [h0]
        rcases k1 with k1 | k1
        · exact .inl (by omega)
        · exact .inr (.inr k1)
      · exact .inr (.inl (by omega))
  · rw [hnil] at hE
    have : ((2 * q / 64 * 64 + 64 : Nat) : Int) = ((2 * E : Nat) : Int) := hE
    omega

/-- What is outside has no words. -/
theorem upTo_out {m : M.Machine} {p : Int} (h : X.R21_inside m p = false) : X.translate_upTo m p = some ([], ()) := by
  unfold X.R21_inside at h
  unfold X.translate_upTo
  by_cases h1 : p < 0
  · have : decide (p < 0) = true := by simp [h1]
    rw [this]; rfl
  · have c1 : decide (p < 0) = false := by simp <;> omega
    have c1' : decide (p ≥ 0) = true := by simp <;> omega
    rw [c1]
    rw [c1', cond_true] at h
    cases h2 : (Int.tmod p 2 == 0) with
    | false =>
      have : (Int.tmod p 2 != 0) = true := by simp [bne, h2]
      rw [this]; rfl
    | true =>
      rw [h2, cond_true] at h
      have h3 : decide (IntKind.wrap IntKind.i64 (Int.tdiv p 2) ≥ (Nat.cast (List.length m.Mem) : Int)) = true := by
        simp only [decide_eq_false_iff_not, decide_eq_true_eq] at h ⊢; omega
      have : (Int.tmod p 2 != 0) = false := by simp [bne, h2]
      rw [this, h3]; rfl
theorem inside_of {m : M.Machine} {p : Int} (hr : p < 9223372036854775808) (h : X.R21_inside m p = true) : ∃ q : Nat, p = ((2 * q : Nat) : Int) ∧ q < m.Mem.length := by
  unfold X.R21_inside at h
  cases h1 : decide (p ≥ 0) with
  | false => rw [h1] at h; cases h
  | true =>
    rw [h1, cond_true] at h
    cases h2 : (Int.tmod p 2 == 0) with
    | false => rw [h2] at h; cases h
    | true =>
      rw [h2, cond_true] at h
      simp only [decide_eq_true_eq, beq_iff_eq] at h h1 h2
      rw [Int.tmod_eq_emod_of_nonneg h1] at h2
      rw [Int.tdiv_eq_ediv_of_nonneg h1, wrap64 (by omega) (by omega)] at h
      exact ⟨(p / 2).toNat, by omega, by omega⟩

/-- The instructions of a block. -/
def blk : Nat → List Int → Int → List M.Micro
  | 0, _, _ => []
  | r + 1, ws, at_ => match X.inst_Decode ws with
    | some (i, n, _) => bif n == 0 then [] else bif X.R06_Ends i then [⟨at_, ws.take n.toNat, i⟩] else ⟨at_, ws.take n.toNat, i⟩ :: blk r (ws.drop n.toNat) (at_ + 2 * n)
    | none => []

theorem blk_len : ∀ (r : Nat) (ws : List Int) (a : Int), (blk r ws a).length ≤ r
  | 0, _, _ => by simp [blk]
  | r + 1, ws, a => by
    unfold blk
    split
    · rename_i i n _ _
      have := blk_len r (ws.drop n.toNat) (a + 2 * n)
      cases n == 0 <;> cases X.R06_Ends i <;> simp <;> omega
    · simp
theorem blk_words : ∀ (r : Nat) (ws : List Int) (a : Int), ∀ x ∈ blk r ws a, x.Words.length ≤ ws.length
  | 0, _, _, x, hx => by simp [blk] at hx
  | r + 1, ws, a, x, hx => by
    unfold blk at hx
    split at hx
    · rename_i i n _ _
      have ih := blk_words r (ws.drop n.toNat) (a + 2 * n)
      have h0 : (ws.take n.toNat).length ≤ ws.length := by rw [List.length_take]; omega
      cases hn : n == 0 with
      | true => rw [hn] at hx; simp at hx
      | false =>
        rw [hn] at hx
        cases he : X.R06_Ends i with
        | true => rw [he] at hx; simp at hx; rw [hx]; exact h0
        | false =>
          rw [he] at hx
          simp only [cond_false, List.mem_cons] at hx
          rcases hx with rfl | hx
          · exact h0
          · have := ih x hx
            rw [List.length_drop] at this
            omega
    · simp at hx

theorem dec_shape (ws : List Int) : ∃ i n, X.inst_Decode ws = some (i, ((n : Nat) : Int), ()) ∧ n ≤ ws.length ∧ n ≤ 3 := by
  obtain ⟨i, n, e, h⟩ := dec_words ws
  rcases h with ⟨rfl, _⟩ | ⟨rest, h1, rfl, _⟩
  · exact ⟨i, 0, e, by omega, by omega⟩
  · refine ⟨i, _, e, ?_, ?_⟩
    · conv => rhs; rw [h1]
      rw [List.length_append]; omega
    · rw [wds_len]
      cases X.R05_Extended i.Src <;> cases X.R05_Extended i.Dst <;> decide

theorem pb_loop {z : M.Block} {st : Int} : ∀ (r fuel : Nat) (ws : List Int) (a : Nat) (C : List M.Micro), C.length + r = 16 → r < fuel → ws.length ≤ 512 → a + 2 * ws.length ≤ 4096 →
    iterO X.translate_Block_b4 fuel ((ws, ((a : Int), ())), (z, (⟨st, C⟩, ()))) = some (.brk ((), (z, (⟨st, C ++ blk r ws (a : Int)⟩, ()))))
  | 0, fuel + 1, ws, a, C, hC, _, _, _ => by
    refine it_brk ?_
    unfold X.translate_Block_b4
    have : decide ((Nat.cast (List.length C) : Int) < 16) = false := by simp <;> omega
    simp only [this, cond_false, blk, List.append_nil]
  | r + 1, fuel + 1, ws, a, C, hC, hf, hw, ha => by
    obtain ⟨i, n, e, h1, h2⟩ := dec_shape ws
    have c0 : decide ((Nat.cast (List.length C) : Int) < 16) = true := by simp <;> omega
    have hb : X.translate_Block_b4 ((ws, ((a : Int), ())), (z, (⟨st, C⟩, ()))) = (bif ((n : Int) == 0) then some (.brk ((), (z, (⟨st, C⟩, ())))) else bif X.R06_Ends i then some (.brk ((), (z, (⟨st, C ++ [⟨(a : Int), ws.take n, i⟩]⟩, ())))) else
        some (.next ((ws.drop n, (((a + 2 * n : Nat) : Int), ())), (z, (⟨st, C ++ [⟨(a : Int), ws.take n, i⟩]⟩, ()))))) := by
      unfold X.translate_Block_b4
      have g1 : decide ((n : Int) ≤ (Nat.cast (List.length ws) : Int)) = true := by simp <;> omega
      have g2 : decide ((Nat.cast (List.length ws) : Int) ≤ (Nat.cast (List.length ws) : Int)) = true := by simp
      have g3 : capOK (C.length + 1) 112 = true := capOK_le (show C.length + 1 ≤ 17 by omega) cap16
      have g4 : X.slices_Clone (List.drop 0 (List.take n ws)) = some (ws.take n, ()) := by
        unfold X.slices_Clone
        have : capOK (0 + (List.drop 0 (List.take n ws)).length) 8 = true := capOK_le (m := 600) (by rw [List.drop_zero, List.length_take]; omega) cap512
        rw [this]; rfl
      have g5 : IntKind.wrap IntKind.i64 ((a : Int) + IntKind.wrap IntKind.i64 (2 * (n : Int))) = ((a + 2 * n : Nat) : Int) := by
        rw [wrap64 (x := 2 * (n : Int)) (by omega) (by omega), wrap64 (by omega) (by omega)]; omega
      simp only [c0, e, ends_eq, ge0, g1, g2, g3, g4, g5, cond_true, Bool.and_self, Int.toNat_natCast, List.length_cons, List.length_nil, Nat.zero_add, Int.le_refl, decide_true, List.take_length]
    have hblk : blk (r + 1) ws (a : Int) = (bif ((n : Int) == 0) then [] else bif X.R06_Ends i then [⟨(a : Int), ws.take n, i⟩] else ⟨(a : Int), ws.take n, i⟩ :: blk r (ws.drop n) ((a + 2 * n : Nat) : Int)) := by
      conv => lhs; unfold blk
      rw [e]
      simp only [Int.toNat_natCast]
      rw [show (a : Int) + 2 * (n : Int) = ((a + 2 * n : Nat) : Int) by omega]
    rw [hblk]
    cases hn : ((n : Int) == 0) with
    | true => rw [hn] at hb; rw [it_brk hb]; simp
    | false =>
      rw [hn] at hb
      cases he : X.R06_Ends i with
      | true => rw [he] at hb; rw [it_brk hb]; rfl
      | false =>
        rw [he] at hb
        rw [it_next hb, pb_loop r fuel (ws.drop n) (a + 2 * n) _ (by simp <;> omega) (by omega) (by rw [List.length_drop]; omega) (by rw [List.length_drop]; omega)]
        simp

theorem rb_loop {z : M.Block} {st : Int} {p : Nat} {W : List Int} (hW : W.length ≤ 512) (hp : p ≤ 2048) : ∀ (r fuel j : Nat) (C : List M.Micro), C.length + r = 16 → r < fuel → j ≤ W.length →
    iterO X.R21_Block_b6 fuel (((p : Int), (W, ((j : Int), ()))), (z, (⟨st, C⟩, ()))) = some (.brk ((), (z, (⟨st, C ++ blk r (W.drop j) ((p + 2 * j : Nat) : Int)⟩, ()))))
  | 0, fuel + 1, j, C, hC, _, _ => by
    refine it_brk ?_
    unfold X.R21_Block_b6
    have : decide ((Nat.cast (List.length C) : Int) < 16) = false := by simp <;> omega
    simp only [this, cond_false, blk, List.append_nil]
  | r + 1, fuel + 1, j, C, hC, hf, hj => by
    obtain ⟨i, n, e, h1, h2⟩ := dec_shape (W.drop j)
    rw [List.length_drop] at h1
    have e' : X.R06_Decode (W.drop j) = some (i, ((n : Nat) : Int), ()) := by
      obtain ⟨r, k1, k2⟩ := decode_eq (W.drop j)
      rw [e] at k1
      rw [k2, ← k1]
    have c0 : decide ((Nat.cast (List.length C) : Int) < 16) = true := by simp <;> omega
    have hb : X.R21_Block_b6 (((p : Int), (W, ((j : Int), ()))), (z, (⟨st, C⟩, ()))) = (bif ((n : Int) == 0) then some (.brk ((), (z, (⟨st, C⟩, ())))) else bif X.R06_Ends i then some (.brk ((), (z, (⟨st, C ++ [⟨((p + 2 * j : Nat) : Int), (W.drop j).take n, i⟩]⟩, ())))) else
        some (.next (((p : Int), (W, (((j + n : Nat) : Int), ()))), (z, (⟨st, C ++ [⟨((p + 2 * j : Nat) : Int), (W.drop j).take n, i⟩]⟩, ()))))) := by
      unfold X.R21_Block_b6
      have g0 : decide ((j : Int) ≤ (Nat.cast (List.length W) : Int)) = true := by simp <;> omega
      have g2 : decide ((Nat.cast (List.length W) : Int) ≤ (Nat.cast (List.length W) : Int)) = true := by simp
      have g6 : IntKind.wrap IntKind.i64 ((j : Int) + (n : Int)) = ((j + n : Nat) : Int) := by rw [wrap64 (by omega) (by omega)]; omega
      have g1 : decide (((j + n : Nat) : Int) ≤ (Nat.cast (List.length W) : Int)) = true := by simp <;> omega
      have g7 : decide ((j : Int) ≤ ((j + n : Nat) : Int)) = true := by simp <;> omega
      have g3 : capOK (C.length + 1) 112 = true := capOK_le (show C.length + 1 ≤ 17 by omega) cap16
      have g8 : List.drop j (List.take (j + n) W) = (W.drop j).take n := by rw [List.drop_take]; congr 1; omega
      have g4 : capOK ((W.drop j).take n).length 8 = true := capOK_le (m := 600) (by rw [List.length_take]; omega) cap512
      have g5 : IntKind.wrap IntKind.i64 ((p : Int) + IntKind.wrap IntKind.i64 (2 * (j : Int))) = ((p + 2 * j : Nat) : Int) := by
        rw [wrap64 (x := 2 * (j : Int)) (by omega) (by omega), wrap64 (by omega) (by omega)]; omega
      simp only [c0, ge0, g0, g2, cond_true, Bool.and_self, Int.toNat_natCast, List.take_length, e', g6, g1, g7, g8, g4, g5, List.length_cons, List.length_nil, Nat.zero_add, g3, List.nil_append]
    have hblk : blk (r + 1) (W.drop j) ((p + 2 * j : Nat) : Int) = (bif ((n : Int) == 0) then [] else bif X.R06_Ends i then [⟨((p + 2 * j : Nat) : Int), (W.drop j).take n, i⟩] else ⟨((p + 2 * j : Nat) : Int), (W.drop j).take n, i⟩ :: blk r (W.drop (j + n)) ((p + 2 * (j + n) : Nat) : Int)) := by
      conv => lhs; unfold blk
      rw [e]
      simp only [Int.toNat_natCast, List.drop_drop]
      rw [show ((p + 2 * j : Nat) : Int) + 2 * (n : Int) = ((p + 2 * (j + n) : Nat) : Int) by omega]
    rw [hblk]
    cases hn : ((n : Int) == 0) with
    | true => rw [hn] at hb; rw [it_brk hb]; simp
    | false =>
      rw [hn] at hb
      cases he : X.R06_Ends i with
      | true => rw [he] at hb; rw [it_brk hb]; rfl
      | false =>
        rw [he] at hb
        rw [it_next hb, rb_loop hW hp r fuel (j + n) _ (by simp <;> omega) (by omega) (by omega)]
        simp

def mkB (p : Int) (l : List M.Micro) : M.Block := bif ((Nat.cast (List.length l) : Int) == 0) then ⟨0, []⟩ else ⟨p, l⟩

/-- A block, for both. -/
theorem block_both {m : M.Machine} {p : Int} (hr : p < 9223372036854775808) (hm : m.Mem.length ≤ 512) (hb : m.Bad.length ≤ 512) (ho : ∀ x ∈ m.Bad, BadOK m.Mem.length x) :
    ∃ ws : List Int, ws.length ≤ 512 ∧ X.translate_Block m p = some (mkB p (blk 16 ws p), ()) ∧ X.R21_Block m p = some (mkB p (blk 16 ws p), ()) ∧ (∀ q : Nat, p = ((2 * q : Nat) : Int) → q < m.Mem.length → m.Bad = [] → ws = (m.Mem.drop q).take (min ((2 * q) / 64 * 32 + 32) m.Mem.length - q)) := by
  cases hi : X.R21_inside m p with
  | false =>
    refine ⟨[], by simp, ?_, ?_, fun q hp hq _ => ?_⟩
    · unfold X.translate_Block
      rw [upTo_out hi]
      dsimp only
      unfold X.translate_Block_l4
      have hd : X.translate_Block_b4 (([], (p, ())), (⟨0, []⟩, (⟨p, []⟩, ()))) = some (.brk ((), (⟨0, []⟩, (⟨p, []⟩, ())))) := by
        obtain ⟨i, n, e, h1, h2⟩ := dec_shape []
        have hn : n = 0 := by simpa using h1
        subst hn
        unfold X.translate_Block_b4
        simp only [e]
        rfl
      rw [show 100 + List.length ([] : List Int) + Int.toNat p + List.length ([] : List M.Micro) + List.length ([] : List M.Micro) = (99 + Int.toNat p) + 1 by simp <;> omega, it_brk hd]
      have : blk 16 [] p = [] := by
        obtain ⟨i, n, e, h1, h2⟩ := dec_shape []
        have hn : n = 0 := by simpa using h1
        subst hn
        unfold blk
        rw [e]; rfl
      rw [this]; rfl
    · unfold X.R21_Block
      rw [hi]
      have : blk 16 [] p = [] := by
        obtain ⟨i, n, e, h1, h2⟩ := dec_shape []
        have hn : n = 0 := by simpa using h1
        subst hn
        unfold blk
        rw [e]; rfl
      rw [this]; rfl
    · exfalso
      unfold X.R21_inside at hi
      subst hp
      have c1 : decide (((2 * q : Nat) : Int) ≥ 0) = true := by simp <;> omega
      have c2 : (Int.tmod ((2 * q : Nat) : Int) 2 == 0) = true := by rw [Int.tmod_eq_emod_of_nonneg (by omega)]; simp
      rw [c1, c2, td2 q (by omega), lt_tt hq] at hi
      cases hi
  | true =>
    obtain ⟨q, rfl, hq⟩ := inside_of hr hi
    obtain ⟨k, E, w1, w2, w3, w4⟩ := words_both hm hb ho hq
    have hl : ((m.Mem.drop q).take k).length ≤ 512 := by rw [List.length_take, List.length_drop]; omega
    have hl2 : 2 * q + 2 * ((m.Mem.drop q).take k).length ≤ 4096 := by omega
    refine ⟨(m.Mem.drop q).take k, hl, ?_, ?_, fun q' hp hq' hnil => ?_⟩
    · unfold X.translate_Block
      rw [w1]
      dsimp only
      unfold X.translate_Block_l4
      have := pb_loop (z := ⟨0, []⟩) (st := ((2 * q : Nat) : Int)) 16 (100 + List.length ((m.Mem.drop q).take k) + Int.toNat ((2 * q : Nat) : Int) + List.length ([] : List M.Micro) + List.length ([] : List M.Micro)) ((m.Mem.drop q).take k) (2 * q) [] rfl (by omega) hl hl2
      rw [this]
      dsimp only [List.nil_append]
      unfold mkB
      cases ((Nat.cast (List.length (blk 16 ((m.Mem.drop q).take k) ((2 * q : Nat) : Int))) : Int) == 0) <;> rfl
    · unfold X.R21_Block
      rw [hi, w2]
      simp only [Bool.not_true, cond_false]
      unfold X.R21_Block_l6
      have := rb_loop (z := ⟨0, []⟩) (st := ((2 * q : Nat) : Int)) (p := 2 * q) hl (by omega) 16 (100 + Int.toNat ((2 * q : Nat) : Int) + List.length ((m.Mem.drop q).take k) + Int.toNat ((0 : Nat) : Int) + List.length ([] : List M.Micro) + List.length ([] : List M.Micro)) 0 [] rfl (by omega) (by omega)
      rw [List.drop_zero, Nat.mul_zero, Nat.add_zero] at this
      rw [show ((0 : Nat) : Int) = 0 from rfl] at this
      rw [this]
      dsimp only [List.nil_append]
      unfold mkB
      cases ((Nat.cast (List.length (blk 16 ((m.Mem.drop q).take k) ((2 * q : Nat) : Int))) : Int) == 0) <;> rfl
    · have hqq : q' = q := by omega
      subst hqq
      have := w4 hnil
      congr 1
      omega
end PL
end Go.Proofs.Ytnonimnhninafaa.Ab

/- TranslateBlocks. -/
namespace Go.Proofs.Ytnonimnhninafaa.Ab
open Go
set_option linter.unusedVariables false
set_option linter.unusedSimpArgs false
namespace PL
set_option maxRecDepth 100000

theorem alive21 : X.L21_alive = some (true, ()) := by kernel_rfl

theorem sm_loop {a : M.Micro} (hm : a.Words.length ≤ 512) : ∀ (k i fuel : Nat), k + i = a.Words.length → k < fuel →
    iterO X.R21_SameMicro_b4 fuel (((i : Int), ()), (a, (a, ()))) = some (.brk ((), ()))
  | 0, i, fuel + 1, hk, _ => by
    refine it_brk ?_
    unfold X.R21_SameMicro_b4
    simp only [lt_ff (show a.Words.length ≤ i by omega), cond_false]
  | k + 1, i, fuel + 1, hk, hf => by
    have hi : i < a.Words.length := by omega
    have hb : X.R21_SameMicro_b4 (((i : Int), ()), (a, (a, ()))) = some (.next ((((i + 1 : Nat) : Int), ()), (a, (a, ())))) := by
      unfold X.R21_SameMicro_b4
      simp only [lt_tt hi, ge0, idx hi, inc (show i < 4611686018427387904 by omega), cond_true, Bool.and_self, bne_self_eq_false, cond_false]
    rw [it_next hb]
    exact sm_loop hm k (i + 1) fuel (by omega) (by omega)

theorem sameMicro {a : M.Micro} (hm : a.Words.length ≤ 512) : X.R21_SameMicro a a = some (true, ()) := by
  unfold X.R21_SameMicro
  have e : vEqB (Ty.st SId.sInst) a.Inst a.Inst = true := vEqB_refl _ _
  have e2 := sm_loop hm a.Words.length 0 (100 + Int.toNat 0 + List.length a.Words + List.length a.Words) (by omega) (by omega)
  rw [show ((0 : Nat) : Int) = 0 from rfl] at e2
  simp only [bne_self_eq_false, cond_false, e, Bool.not_true]
  unfold X.R21_SameMicro_l4
  rw [e2]

theorem sb_loop {a : M.Block} (hm : a.Code.length ≤ 512) (hw : ∀ x ∈ a.Code, x.Words.length ≤ 512) : ∀ (k i fuel : Nat), k + i = a.Code.length → k < fuel →
    iterO X.R21_SameBlock_b4 fuel (((i : Int), ()), (a, (a, ()))) = some (.brk ((), ()))
  | 0, i, fuel + 1, hk, _ => by
    refine it_brk ?_
    unfold X.R21_SameBlock_b4
    simp only [lt_ff (show a.Code.length ≤ i by omega), cond_false]
  | k + 1, i, fuel + 1, hk, hf => by
    have hi : i < a.Code.length := by omega
    have hx : List.getD a.Code (Int.toNat (i : Int)) (dflt (Ty.st SId.sMicro)) = a.Code[i] := by rw [Int.toNat_natCast]; exact getD_of (List.getElem?_eq_getElem hi)
    have hs := sameMicro (hw _ (List.getElem_mem hi))
    have hb : X.R21_SameBlock_b4 (((i : Int), ()), (a, (a, ()))) = some (.next ((((i + 1 : Nat) : Int), ()), (a, (a, ())))) := by
      unfold X.R21_SameBlock_b4
      simp only [lt_tt hi, ge0, hx, hs, inc (show i < 4611686018427387904 by omega), cond_true, Bool.and_self, Bool.not_true, cond_false]
    rw [it_next hb]
    exact sb_loop hm hw k (i + 1) fuel (by omega) (by omega)

theorem sameBlock {a : M.Block} (hm : a.Code.length ≤ 512) (hw : ∀ x ∈ a.Code, x.Words.length ≤ 512) : X.R21_SameBlock a a = some (true, ()) := by
  unfold X.R21_SameBlock
  have e2 := sb_loop hm hw a.Code.length 0 (100 + Int.toNat 0 + List.length a.Code + List.length a.Code) (by omega) (by omega)
  rw [show ((0 : Nat) : Int) = 0 from rfl] at e2
  simp only [bne_self_eq_false, cond_false]
  unfold X.R21_SameBlock_l4
  rw [e2]

theorem mkB_code (p : Int) (l : List M.Micro) : (mkB p l).Code = l := by
  unfold mkB
  cases l with
  | nil => rfl
  | cons x l =>
    have : ((Nat.cast (List.length (x :: l)) : Int) == 0) = false := by rw [beq_eq_false_iff_ne]; simp; omega
    rw [this]; rfl

theorem machine_mem (a : M.Emulatorlaw21_Memory) : (X.L21_Memory_machine a).Mem = a.Mem := rfl
theorem machine_bad (a : M.Emulatorlaw21_Memory) : (X.L21_Memory_machine a).Bad = a.Bad := rfl

theorem blocks (a : M.Emulatorlaw21_Memory) (b : Int) (hr : b < 9223372036854775808) : X.L21_TranslateBlocks a b = some (true, ()) := by
  obtain ⟨g, e, h⟩ := good_spec a
  unfold X.L21_TranslateBlocks
  rw [e, alive21]
  cases g with
  | false => rfl
  | true =>
    obtain ⟨h1, h2, h3⟩ := h rfl
    obtain ⟨ws, k0, k1, k2, _⟩ := block_both (m := X.L21_Memory_machine a) hr h1 h2 h3
    simp only [Bool.not_true, cond_false, k1, k2]
    have hs : X.R21_SameBlock (mkB b (blk 16 ws b)) (mkB b (blk 16 ws b)) = some (true, ()) := by
      refine sameBlock ?_ fun x hx => ?_
      · rw [mkB_code]; have := blk_len 16 ws b; omega
      · rw [mkB_code] at hx; have := blk_words 16 ws b x hx; omega
    rw [hs]
    rfl
end PL
end Go.Proofs.Ytnonimnhninafaa.Ab

/- slices.Equal, ContainsFunc with Fresh's closure, and the reference's Fresh. -/
namespace Go.Proofs.Ytnonimnhninafaa.Ab
open Go
set_option linter.unusedVariables false
set_option linter.unusedSimpArgs false
namespace PL

theorem se_loop {a b : List Int} (hl : a.length = b.length) (hm : a.length ≤ 1000000) : ∀ (k i fuel : Nat), k + i = a.length → k < fuel →
    iterO X.slices_Equal_b4 fuel ((a, (b, ((a.length : Int), ((i : Int), ())))), ()) = some (bif decide (a.drop i = b.drop i) then .brk ((), ()) else .ret ((false, ()), ()))
  | 0, i, fuel + 1, hk, _ => by
    rw [List.drop_eq_nil_of_le (show a.length ≤ i by omega), List.drop_eq_nil_of_le (show b.length ≤ i by omega)]
    refine it_brk ?_
    unfold X.slices_Equal_b4
    simp only [lt_ff (show a.length ≤ i by omega), cond_false]
  | k + 1, i, fuel + 1, hk, hf => by
    have hi : i < a.length := by omega
    have hj : i < b.length := by omega
    have hb : X.slices_Equal_b4 ((a, (b, ((a.length : Int), ((i : Int), ())))), ()) = (bif a[i] != b[i] then some (.ret ((false, ()), ())) else some (.next ((a, (b, ((a.length : Int), (((i + 1 : Nat) : Int), ())))), ()))) := by
      unfold X.slices_Equal_b4
      simp only [lt_tt hi, lt_tt hj, ge0, idx hi, idx hj, inc (show i < 4611686018427387904 by omega), cond_true, Bool.and_self]
    have d1 : a.drop i = a[i] :: a.drop (i + 1) := List.drop_eq_getElem_cons hi
    have d2 : b.drop i = b[i] :: b.drop (i + 1) := List.drop_eq_getElem_cons hj
    rw [d1, d2]
    by_cases he : a[i] = b[i]
    · have hn : (a[i] != b[i]) = false := by simp [he]
      rw [hn] at hb
      rw [it_next hb, se_loop hl hm k (i + 1) fuel (by omega) (by omega)]
      have hc : (a.drop (i + 1) = b.drop (i + 1)) ↔ (a[i] :: a.drop (i + 1) = b[i] :: b.drop (i + 1)) := ⟨fun h => by rw [he, h], fun h => (List.cons.inj h).2⟩
      rw [decide_eq_decide.2 hc]
    · have hn : (a[i] != b[i]) = true := by simp [he]
      rw [hn] at hb
      rw [it_ret hb, decide_eq_false (fun h => he (List.cons.inj h).1)]
      rfl

theorem slices_eq {a b : List Int} (hm : a.length ≤ 1000000) : X.slices_Equal a b = some (decide (a = b), ()) := by
  unfold X.slices_Equal
  by_cases hl : a.length = b.length
  · have e : ((Nat.cast (List.length a) : Int) != (Nat.cast (List.length b) : Int)) = false := by simp [hl]
    rw [e, cond_false]
    unfold X.slices_Equal_l4
    have l := se_loop hl hm a.length 0 (100 + List.length a + List.length b + Int.toNat (a.length : Int) + Int.toNat ((0 : Nat) : Int)) (by omega) (by omega)
    rw [show ((0 : Nat) : Int) = 0 from rfl, List.drop_zero, List.drop_zero] at l
    rw [l]
    cases decide (a = b) <;> rfl
  · have e : ((Nat.cast (List.length a) : Int) != (Nat.cast (List.length b) : Int)) = true := by rw [bne_iff_ne]; omega
    rw [e, decide_eq_false (fun h => hl (congrArg List.length h))]
    rfl

/-- Does an address lie in so many words from another on? -/
def inW (At : Int) (n : Nat) (x : Int) : Bool := decide (x ≥ At) && decide (x < At + 2 * (n : Int))

theorem fresh1 {x : Int} {b : M.Micro} {n : Nat} (h0 : 0 ≤ b.At) (h1 : b.At < 4000000) (hn : n ≤ 1000) : X.Fresh_1 x b (n : Int) = some ((inW b.At n x, ()), (b, ((n : Int), ()))) := by
  unfold X.Fresh_1 inW
  have e : IntKind.wrap IntKind.i64 (b.At + IntKind.wrap IntKind.i64 ((2 : Int) * (n : Int))) = b.At + 2 * (n : Int) := by
    rw [wrap64 (x := (2 : Int) * (n : Int)) (by omega) (by omega), wrap64 (by omega) (by omega)]
  rw [e]
  cases decide (x ≥ b.At) <;> rfl

theorem if_loop {l : List Int} {b : M.Micro} {n : Nat} (hm : l.length ≤ 512) (h0 : 0 ≤ b.At) (h1 : b.At < 4000000) (hn : n ≤ 1000) : ∀ (k i fuel : Nat), k + i = l.length → k < fuel →
    (iterO X.IndexFunc_b2 fuel ((l, ((l.length : Int), ((i : Int), ()))), (b, ((n : Int), ()))) = some (.brk ((), (b, ((n : Int), ())))) ∧ (l.drop i).any (inW b.At n) = false) ∨
    (∃ j : Nat, iterO X.IndexFunc_b2 fuel ((l, ((l.length : Int), ((i : Int), ()))), (b, ((n : Int), ()))) = some (.ret (((j : Int), ()), (b, ((n : Int), ())))) ∧ (l.drop i).any (inW b.At n) = true)
  | 0, i, fuel + 1, hk, _ => by
    refine .inl ⟨it_brk ?_, by rw [List.drop_eq_nil_of_le (by omega)]; rfl⟩
    unfold X.IndexFunc_b2
    simp only [lt_ff (show l.length ≤ i by omega), cond_false]
  | k + 1, i, fuel + 1, hk, hf => by
    have hi : i < l.length := by omega
    have hb : X.IndexFunc_b2 ((l, ((l.length : Int), ((i : Int), ()))), (b, ((n : Int), ()))) = (bif inW b.At n l[i] then some (.ret (((i : Int), ()), (b, ((n : Int), ())))) else some (.next ((l, ((l.length : Int), (((i + 1 : Nat) : Int), ()))), (b, ((n : Int), ()))))) := by
      unfold X.IndexFunc_b2
      simp only [lt_tt hi, ge0, idx hi, fresh1 h0 h1 hn, inc (show i < 4611686018427387904 by omega), cond_true, Bool.and_self]
    have d1 : l.drop i = l[i] :: l.drop (i + 1) := List.drop_eq_getElem_cons hi
    rw [d1, List.any_cons]
    cases hw : inW b.At n l[i] with
    | true => rw [hw] at hb; exact .inr ⟨i, it_ret hb, rfl⟩
    | false =>
      rw [hw] at hb
      rw [it_next hb, Bool.false_or]
      exact if_loop hm h0 h1 hn k (i + 1) fuel (by omega) (by omega)

theorem contains_eq {l : List Int} {b : M.Micro} {n : Nat} (hm : l.length ≤ 512) (h0 : 0 ≤ b.At) (h1 : b.At < 4000000) (hn : n ≤ 1000) :
    X.ContainsFunc l b (n : Int) = some ((l.any (inW b.At n), ()), (b, ((n : Int), ()))) := by
  unfold X.ContainsFunc X.IndexFunc X.IndexFunc_l2
  rcases if_loop (b := b) (n := n) hm h0 h1 hn l.length 0 (100 + List.length l) (by omega) (by omega) with ⟨e, h⟩ | ⟨j, e, h⟩
  · rw [show ((0 : Nat) : Int) = 0 from rfl] at e
    rw [List.drop_zero] at h
    rw [e, h]
    rfl
  · rw [show ((0 : Nat) : Int) = 0 from rfl] at e
    rw [List.drop_zero] at h
    rw [e, h]
    have : decide ((j : Int) ≥ 0) = true := by simp
    simp only [this]
end PL
end Go.Proofs.Ytnonimnhninafaa.Ab

/- TranslateFresh. -/
namespace Go.Proofs.Ytnonimnhninafaa.Ab
open Go
set_option linter.unusedVariables false
set_option linter.unusedSimpArgs false
namespace PL

theorem any_zero (l : List Int) (a : Int) : l.any (inW a 0) = false := by
  rw [List.any_eq_false]
  intro x _ h
  unfold inW at h
  simp only [Bool.and_eq_true, decide_eq_true_eq] at h
  omega
theorem any_step {l : List Int} {n : Nat} (ho : ∀ x ∈ l, BadOK n x) (a r : Nat) (ha : a % 2 = 0) : l.any (inW (a : Int) (r + 1)) = (decide ((a : Int) ∈ l) || l.any (inW ((a + 2 : Nat) : Int) r)) := by
  rw [Bool.eq_iff_iff]
  simp only [List.any_eq_true, Bool.or_eq_true, decide_eq_true_eq]
  constructor
  · rintro ⟨x, hx, h⟩
    obtain ⟨b1, b2, b3⟩ := ho x hx
    unfold inW at h
    simp only [Bool.and_eq_true, decide_eq_true_eq] at h
    by_cases e : x = (a : Int)
    · exact .inl (e ▸ hx)
    · refine .inr ⟨x, hx, ?_⟩
      unfold inW
      simp only [Bool.and_eq_true, decide_eq_true_eq]
      omega
  · rintro (h | ⟨x, hx, h⟩)
    · refine ⟨_, h, ?_⟩
      unfold inW
      simp only [Bool.and_eq_true, decide_eq_true_eq]
      omega
    · refine ⟨x, hx, ?_⟩
      unfold inW at h ⊢
      simp only [Bool.and_eq_true, decide_eq_true_eq] at h ⊢
      omega

theorem rf_loop {m : M.Machine} {b : M.Micro} {q : Nat} (hm : m.Mem.length ≤ 512) (hb : m.Bad.length ≤ 512) (ho : ∀ x ∈ m.Bad, BadOK m.Mem.length x) (hA : b.At = ((2 * q : Nat) : Int)) (hq : q + b.Words.length ≤ m.Mem.length) :
    ∀ (k i fuel : Nat), k + i = b.Words.length → k < fuel →
    iterO X.R21_Fresh_b4 fuel (((i : Int), ()), (m, (b, ()))) = some (bif decide ((m.Mem.drop (q + i)).take k = b.Words.drop i) && !(m.Bad.any (inW ((2 * q + 2 * i : Nat) : Int) k)) then .brk ((), (b, ())) else .ret ((false, ()), ()))
  | 0, i, fuel + 1, hk, _ => by
    rw [List.drop_eq_nil_of_le (show b.Words.length ≤ i by omega), any_zero]
    refine it_brk ?_
    unfold X.R21_Fresh_b4
    simp only [lt_ff (show b.Words.length ≤ i by omega), cond_false]
  | k + 1, i, fuel + 1, hk, hf => by
    have hi : i < b.Words.length := by omega
    have hj : q + i < m.Mem.length := by omega
    have t1 : IntKind.wrap IntKind.i64 (IntKind.wrap IntKind.i64 (Int.tdiv b.At 2) + (i : Int)) = ((q + i : Nat) : Int) := by rw [hA, td2 q (by omega), wrap64 (by omega) (by omega)]; omega
    have t2 : IntKind.wrap IntKind.i64 (b.At + IntKind.wrap IntKind.i64 ((2 : Int) * (i : Int))) = ((2 * q + 2 * i : Nat) : Int) := by
      rw [hA, wrap64 (x := (2 : Int) * (i : Int)) (by omega) (by omega), wrap64 (by omega) (by omega)]; omega
    have hb1 : X.R21_Fresh_b4 (((i : Int), ()), (m, (b, ()))) = (bif m.Mem[q + i] != b.Words[i] then some (.ret ((false, ()), ())) else bif decide (((2 * q + 2 * i : Nat) : Int) ∈ m.Bad) then some (.ret ((false, ()), ())) else some (.next ((((i + 1 : Nat) : Int), ()), (m, (b, ()))))) := by
      unfold X.R21_Fresh_b4
      simp only [lt_tt hi, t1, lt_tt hj, ge0, idx hi, idx hj, t2, has_eq hb, inc (show i < 4611686018427387904 by omega), cond_true, Bool.and_self]
    have d1 : (m.Mem.drop (q + i)).take (k + 1) = m.Mem[q + i] :: (m.Mem.drop (q + (i + 1))).take k := by
      rw [List.drop_eq_getElem_cons hj, List.take_succ_cons]; rfl
    have d2 : b.Words.drop i = b.Words[i] :: b.Words.drop (i + 1) := List.drop_eq_getElem_cons hi
    rw [d1, d2, any_step ho (2 * q + 2 * i) k (by omega)]
    by_cases he : m.Mem[q + i] = b.Words[i]
    · have hn : (m.Mem[q + i] != b.Words[i]) = false := by simp [he]
      rw [hn, cond_false] at hb1
      cases hbad : decide (((2 * q + 2 * i : Nat) : Int) ∈ m.Bad) with
      | true =>
        rw [hbad] at hb1
        rw [it_ret hb1]
        simp
      | false =>
        rw [hbad] at hb1
        rw [it_next hb1, rf_loop hm hb ho hA hq k (i + 1) fuel (by omega) (by omega)]
        have hc : ((m.Mem.drop (q + (i + 1))).take k = b.Words.drop (i + 1)) ↔ (m.Mem[q + i] :: (m.Mem.drop (q + (i + 1))).take k = b.Words[i] :: b.Words.drop (i + 1)) := ⟨fun h => by rw [he, h], fun h => (List.cons.inj h).2⟩
        rw [decide_eq_decide.2 hc, Bool.false_or, show 2 * q + 2 * (i + 1) = 2 * q + 2 * i + 2 by omega]
    · have hn : (m.Mem[q + i] != b.Words[i]) = true := by simp [he]
      rw [hn] at hb1
      rw [it_ret hb1, decide_eq_false (fun h => he (List.cons.inj h).1)]
      rfl

theorem fresh_both {m : M.Machine} {b : M.Micro} (hr : b.At < 9223372036854775808) (hw : b.Words.length ≤ 1000) (hm : m.Mem.length ≤ 512) (hb : m.Bad.length ≤ 512) (ho : ∀ x ∈ m.Bad, BadOK m.Mem.length x) :
    ∃ r, X.translate_Fresh m b = some (r, ()) ∧ X.R21_Fresh m b = some (r, ()) := by
  unfold X.translate_Fresh X.R21_Fresh
  by_cases h0 : b.At < 0
  · have c1 : decide (b.At < 0) = true := by simp [h0]
    have c2 : X.R21_inside m b.At = false := by
      unfold X.R21_inside
      have : decide (b.At ≥ 0) = false := by simp; omega
      rw [this]; rfl
    rw [c1, c2]
    exact ⟨false, rfl, rfl⟩
  have c1 : decide (b.At < 0) = false := by simp; omega
  have c1' : decide (b.At ≥ 0) = true := by simp; omega
  rw [c1, cond_false]
  cases h2 : (Int.tmod b.At 2 == 0) with
  | false =>
    have e : (Int.tmod b.At 2 != 0) = true := by simp [bne, h2]
    have c2 : X.R21_inside m b.At = false := by
      unfold X.R21_inside
      rw [c1', h2]; rfl
    rw [e, c2]
    exact ⟨false, rfl, rfl⟩
  | true =>
    have e : (Int.tmod b.At 2 != 0) = false := by simp [bne, h2]
    rw [e, cond_false]
    rw [beq_iff_eq, Int.tmod_eq_emod_of_nonneg (by omega)] at h2
    obtain ⟨q, hA⟩ : ∃ q : Nat, b.At = ((2 * q : Nat) : Int) := ⟨(b.At / 2).toNat, by omega⟩
    have hqr : (2 * q : Nat) < 9223372036854775808 := by omega
    have t1 : IntKind.wrap IntKind.i64 (Int.tdiv b.At 2) = (q : Int) := by rw [hA, Int.tdiv_eq_ediv_of_nonneg (by omega), wrap64 (by omega) (by omega)]; omega
    have t2 : IntKind.wrap IntKind.i64 ((Nat.cast (List.length m.Mem) : Int) - (q : Int)) = (m.Mem.length : Int) - (q : Int) := wrap64 (by omega) (by omega)
    have hin : X.R21_inside m b.At = decide ((q : Int) < (m.Mem.length : Int)) := by
      unfold X.R21_inside
      have : (Int.tmod b.At 2 == 0) = true := by rw [beq_iff_eq, Int.tmod_eq_emod_of_nonneg (by omega)]; exact h2
      rw [c1', this, t1]; rfl
    rw [t1, t2, hin]
    by_cases hq : q < m.Mem.length
    · have g1 : decide ((q : Int) > (Nat.cast (List.length m.Mem) : Int)) = false := by simp only [decide_eq_false_iff_not]; omega
      have g2 : decide ((q : Int) < (m.Mem.length : Int)) = true := by simp only [decide_eq_true_eq]; omega
      rw [g1, g2]
      simp only [cond_false, Bool.not_true]
      by_cases hn : q + b.Words.length ≤ m.Mem.length
      · have g3 : decide ((Nat.cast (List.length b.Words) : Int) > (m.Mem.length : Int) - (q : Int)) = false := by simp only [decide_eq_false_iff_not]; omega
        have g4 : decide ((q : Int) ≤ (Nat.cast (List.length m.Mem) : Int)) = true := by simp only [decide_eq_true_eq]; omega
        have g5 : decide ((Nat.cast (List.length m.Mem) : Int) ≤ (Nat.cast (List.length m.Mem) : Int)) = true := by simp
        have g6 : decide ((Nat.cast (List.length b.Words) : Int) ≤ (Nat.cast (List.length (m.Mem.drop q)) : Int)) = true := by rw [List.length_drop]; simp only [decide_eq_true_eq]; omega
        have hse := slices_eq (a := (m.Mem.drop q).take b.Words.length) (b := b.Words) (by rw [List.length_take]; omega)
        have hco := contains_eq (l := m.Bad) (b := b) (n := b.Words.length) hb (by omega) (by omega) hw
        have hrf := rf_loop hm hb ho hA hn b.Words.length 0 (100 + Int.toNat ((0 : Nat) : Int) + List.length m.Mem + List.length m.Bad + List.length m.Lines + List.length m.Tape.Records + List.length b.Words) (by omega) (by omega)
        rw [Nat.add_zero, List.drop_zero, Nat.mul_zero, Nat.add_zero, ← hA] at hrf
        rw [show ((0 : Nat) : Int) = 0 from rfl] at hrf
        obtain ⟨y, y1, y2⟩ := decode_eq b.Words
        unfold X.R21_Fresh_l4
        simp only [g3, g4, g5, ge0, Int.toNat_natCast, List.take_length, g6, Bool.and_self, cond_true, cond_false, List.drop_zero, hse, hco, y1, Int.le_refl, decide_true, hrf]
        cases decide ((m.Mem.drop q).take b.Words.length = b.Words) with
        | false => exact ⟨false, rfl, rfl⟩
        | true =>
          cases m.Bad.any (inW b.At b.Words.length) with
          | true => exact ⟨false, rfl, rfl⟩
          | false =>
            simp only [Bool.not_true, Bool.not_false, Bool.and_self, cond_true, cond_false, y2]
            exact ⟨_, rfl, rfl⟩
      · have g3 : decide ((Nat.cast (List.length b.Words) : Int) > (m.Mem.length : Int) - (q : Int)) = true := by simp only [decide_eq_true_eq]; omega
        rw [g3]
        exact ⟨false, rfl, rfl⟩
    · have g2 : decide ((q : Int) < (m.Mem.length : Int)) = false := by simp only [decide_eq_false_iff_not]; omega
      rw [g2]
      simp only [Bool.not_false, cond_true]
      refine ⟨false, ?_, rfl⟩
      by_cases hq2 : q = m.Mem.length
      · have g1 : decide ((q : Int) > (Nat.cast (List.length m.Mem) : Int)) = false := by simp only [decide_eq_false_iff_not]; omega
        rw [g1, cond_false]
        cases g3 : decide ((Nat.cast (List.length b.Words) : Int) > (m.Mem.length : Int) - (q : Int)) with
        | true => rfl
        | false =>
          have hnil : b.Words = [] := by
            simp only [decide_eq_false_iff_not] at g3
            exact List.length_eq_zero_iff.1 (by omega)
          have hl0 : b.Words.length = 0 := by rw [hnil]; rfl
          have hse := slices_eq (a := (m.Mem.drop q).take b.Words.length) (b := b.Words) (by rw [List.length_take]; omega)
          have hco := contains_eq (l := m.Bad) (b := b) (n := b.Words.length) hb (by omega) (by omega) hw
          have g4 : decide ((q : Int) ≤ (Nat.cast (List.length m.Mem) : Int)) = true := by simp only [decide_eq_true_eq]; omega
          have g5 : decide ((Nat.cast (List.length m.Mem) : Int) ≤ (Nat.cast (List.length m.Mem) : Int)) = true := by simp
          have g6 : decide ((Nat.cast (List.length b.Words) : Int) ≤ (Nat.cast (List.length (m.Mem.drop q)) : Int)) = true := by rw [List.length_drop]; simp only [decide_eq_true_eq]; omega
          obtain ⟨i, n, e, h1, h2'⟩ := dec_shape b.Words
          have hn0 : n = 0 := by rw [hnil] at h1; simpa using h1
          subst hn0
          simp only [g4, g5, ge0, Int.toNat_natCast, List.take_length, g6, Bool.and_self, cond_true, cond_false, List.drop_zero, hse, hco, e, Int.le_refl, decide_true]
          cases decide ((m.Mem.drop q).take b.Words.length = b.Words) with
          | false => rfl
          | true => cases m.Bad.any (inW b.At b.Words.length) <;> rfl
      · have g1 : decide ((q : Int) > (Nat.cast (List.length m.Mem) : Int)) = true := by simp only [decide_eq_true_eq]; omega
        rw [g1]
        rfl

theorem fresh (a : M.Emulatorlaw21_Memory) (b : M.Micro) (hr : b.At < 9223372036854775808) : X.L21_TranslateFresh a b = some (true, ()) := by
  obtain ⟨g, e, h⟩ := good_spec a
  unfold X.L21_TranslateFresh
  rw [e, alive21]
  cases g with
  | false => rfl
  | true =>
    obtain ⟨h1, h2, h3⟩ := h rfl
    cases hn : decide ((Nat.cast (List.length b.Words) : Int) > 8) with
    | true => rfl
    | false =>
      simp only [decide_eq_false_iff_not] at hn
      obtain ⟨r, k1, k2⟩ := fresh_both (m := X.L21_Memory_machine a) (b := b) hr (by omega) h1 h2 h3
      simp only [Bool.not_true, cond_false, k1, k2, beq_self_eq_true, cond_true]
end PL
end Go.Proofs.Ytnonimnhninafaa.Ab
