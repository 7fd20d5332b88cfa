/- Rows: how they stand; which are the same. -/
import Derived.Test.YtimdilbcijgadaaGreatDoorPB
set_option linter.unusedVariables false
set_option linter.unusedSimpArgs false
namespace Go.Proofs.YtimdilbcijgadaaGreatDoor
open Go Go.Aev Go.RowKit Go.Sort
theorem ref01_Compare_eq (k n : Int) (s : ByteArray) (k' n' : Int) (s' : ByteArray) (γ : Type) (K : Int → Option γ) : Sp.ref01_Compare k n s k' n' s' γ K = K (V.cmp k n s k' n' s') := by
  unfold Sp.ref01_Compare Sp.B_ref01_Compare V.cmp
  rw [show Op.bytesLess s.data.toList s'.data.toList = decide (s.data.toList < s'.data.toList) from bytesLess_eq _ _]
  rcases V.ci_cases k k' with ⟨h1, _, h2⟩ | ⟨h1, _, h2⟩ | ⟨h1, _, h2⟩
  · simp [h1, h2]
  · subst h2
    rcases V.ci_cases n n' with ⟨h3, _, h4⟩ | ⟨h3, _, h4⟩ | ⟨h3, _, h4⟩
    · simp [h1, h3, h4]
    · subst h4
      rcases V.cs_cases s s' with ⟨h5, _, h6, h7⟩ | ⟨h5, h6⟩ | ⟨h5, h6, h7, h8⟩
      · simp [h1, h3, h5, h7]
      · subst h6; simp [h1, h3, h5, List.lt_irrefl]
      · have h9 : ¬ s.data.toList < s'.data.toList := List.lt_asymm h8
        simp [h1, h3, h5, h7, h9]
    · have h5 : ¬ n < n' := by omega
      have h6 : n ≠ n' := by omega
      simp [h1, h3, h5, h6]
  · have h5 : ¬ k < k' := by omega
    have h6 : k ≠ k' := by omega
    simp [h1, h5, h6]
theorem elemAt_map {α β : Type} {f : α → List Dat} {l : List α} {i : Nat} {v : α} (h : l[i]? = some v) (F : List Dat → Option β) : elemAt (l.map f) (i : Int) F = F (f v) :=
  elemAt_some (by rw [List.getElem?_map, h]; rfl) F
theorem next_i {i : Nat} (h : i ≤ 1099511627776) : IntKind.wrap .i64 ((i : Int) + 1) = ((i + 1 : Nat) : Int) := by
  rw [wrap_i64 (by omega)]; omega
theorem lt_t {i n : Nat} (h : i < n) : decide ((i : Int) < Int.ofNat n) = true := decide_eq_true (by simp only [Int.ofNat_eq_natCast]; omega)
theorem lt_f {i n : Nat} (h : n ≤ i) : decide ((i : Int) < Int.ofNat n) = false := decide_eq_false (by simp only [Int.ofNat_eq_natCast]; omega)

theorem vl_s {β : Type} (v : Vl) (F : ByteArray → Option β) : (bif List.length v.enc == 3 then cellAt (List.drop 2 v.enc) 0 fun z6 => asStr z6 fun z7 => F z7 else none) = F v.s := rfl
theorem int_cell {β : Type} (c : Int) (F : Int → Option β) : (bif List.length [Dat.int IntKind.i64 c] == 1 then cellAt [Dat.int IntKind.i64 c] 0 fun z8 => Aev.asInt IntKind.i64 z8 fun z9 => F z9 else none) = F c := rfl
theorem bool_cell {β : Type} (c : Bool) (F : Bool → Option β) : (bif List.length [Dat.bool c] == 1 then cellAt [Dat.bool c] 0 fun z8 => Aev.asBool z8 fun z9 => F z9 else none) = F c := rfl
theorem sl_cell {β : Type} (c : List Vl) (F : List (List Dat) → Option β) : (bif List.length [R.enc c] == 1 then cellAt [R.enc c] 0 fun z8 => asSl z8 fun z9 => F z9 else none) = F (c.map Vl.enc) := rfl
theorem vl_eq (a b : Vl) : (decide (a.k = b.k) && (decide (a.n = b.n) && (decide (a.s = b.s) && true))) = decide (a = b) := by
  cases a; cases b
  simp [Bool.decide_and]

theorem ref_compare_loop (l m : List Vl) (hl : l.length ≤ 16777216) (γ : Type) (K : Int → Option γ) : ∀ (d i n : Nat), l.length = i + d → d < n → i ≤ m.length →
    Sp.ref02_Compare_L0 n (l.map Vl.enc) (m.map Vl.enc) 0 (i : Int) γ
      (fun z4 z5 z6 => bif Ex.isExit z4 0 then bif decide (Int.ofNat l.length < Int.ofNat m.length) then K (-1) else bif decide (Int.ofNat m.length < Int.ofNat l.length) then K 1 else K 0 else bif Ex.isRet z4 then K z5 else none) = K (R.cmp (l.drop i) (m.drop i)) := by
  intro d
  induction d with
  | zero =>
    intro i n hi hn him
    obtain ⟨n, rfl⟩ : ∃ k, n = k + 1 := ⟨n - 1, by omega⟩
    unfold Sp.ref02_Compare_L0 Sp.B_ref02_Compare_L0
    rw [List.length_map, lt_f (by omega), cond_false, List.drop_eq_nil_of_le (show l.length ≤ i by omega)]
    simp only [Ex.isExit, beq_self_eq_true, cond_true]
    rw [decide_eq_false (show ¬ Int.ofNat m.length < Int.ofNat l.length by simp only [Int.ofNat_eq_natCast]; omega), cond_false]
    by_cases h : l.length < m.length
    · rw [decide_eq_true (show Int.ofNat l.length < Int.ofNat m.length by simp only [Int.ofNat_eq_natCast]; omega), cond_true]
      obtain ⟨c, _, hd⟩ := dropv_cons (show i < m.length by omega)
      rw [hd]; rfl
    · rw [decide_eq_false (show ¬ Int.ofNat l.length < Int.ofNat m.length by simp only [Int.ofNat_eq_natCast]; omega), cond_false, List.drop_eq_nil_of_le (show m.length ≤ i by omega)]
      rfl
  | succ d ih =>
    intro i n hi hn him
    obtain ⟨n, rfl⟩ : ∃ k, n = k + 1 := ⟨n - 1, by omega⟩
    obtain ⟨a, ha, hda⟩ := dropv_cons (show i < l.length by omega)
    unfold Sp.ref02_Compare_L0 Sp.B_ref02_Compare_L0
    rw [List.length_map, lt_t (by omega), cond_true, hda]
    by_cases h : i < m.length
    · obtain ⟨b, hb, hdb⟩ := dropv_cons h
      rw [List.length_map, lt_t h, cond_true, elemAt_enc ha, vl_cells, elemAt_enc hb, vl_cells, ref01_Compare_eq, hdb, next_i (by omega)]
      show (bif !decide (Vl.cmp a b = 0) then _ else _) = K (if Vl.cmp a b = 0 then _ else _)
      by_cases hc : Vl.cmp a b = 0
      · rw [decide_eq_true hc, if_pos hc, Bool.not_true, cond_false]
        exact ih (i + 1) n (by omega) (by omega) (by omega)
      · rw [decide_eq_false hc, if_neg hc, Bool.not_false, cond_true]
        rfl
    · rw [List.length_map, lt_f (by omega), cond_false, List.drop_eq_nil_of_le (show m.length ≤ i by omega)]
      simp only [Ex.isExit, beq_self_eq_true, cond_true]
      rw [decide_eq_false (show ¬ Int.ofNat l.length < Int.ofNat m.length by simp only [Int.ofNat_eq_natCast]; omega), cond_false,
        decide_eq_true (show Int.ofNat m.length < Int.ofNat l.length by simp only [Int.ofNat_eq_natCast]; omega), cond_true]
      rfl

theorem ref02_Compare_eq (l m : List Vl) (hl : l.length ≤ 16777216) (γ : Type) (K : Int → Option γ) : Sp.ref02_Compare (l.map Vl.enc) (m.map Vl.enc) γ K = K (R.cmp l m) := by
  unfold Sp.ref02_Compare Sp.B_ref02_Compare
  rw [List.length_map, List.length_map]
  exact ref_compare_loop l m hl γ K l.length 0 fuel (by omega) (by unfold fuel; omega) (Nat.zero_le _)

theorem R.cmp_zero (l m : List Vl) : decide (R.cmp l m = 0) = decide (l = m) := by
  rcases R.cmp_cases l m with ⟨h1, _, h3⟩ | ⟨h1, _, h3⟩ | ⟨h1, _, h3⟩
  · rw [h1, decide_eq_false h3]; rfl
  · rw [h1, decide_eq_true h3]; rfl
  · rw [h1, decide_eq_false h3]; rfl

theorem ref02_Same_eq (l m : List Vl) (hl : l.length ≤ 16777216) (γ : Type) (K : Bool → Option γ) : Sp.ref02_Same (l.map Vl.enc) (m.map Vl.enc) γ K = K (decide (l = m)) := by
  unfold Sp.ref02_Same Sp.B_ref02_Same
  rw [ref02_Compare_eq l m hl, R.cmp_zero]

theorem same_loop (l m : List Vl) (hl : l.length ≤ 16777216) (hlm : l.length = m.length) (γ : Type) (K : Bool → Option γ) : ∀ (d i n : Nat), l.length = i + d → d < n →
    Sp.slices_Equal_api_Value_api_Value_L0 n (l.map Vl.enc) (m.map Vl.enc) (Int.ofNat l.length) false (i : Int) γ (fun z4 z5 z6 => bif Ex.isExit z4 0 then K true else bif Ex.isRet z4 then K z5 else none) = K (decide (l.drop i = m.drop i)) := by
  intro d
  induction d with
  | zero =>
    intro i n hi hn
    obtain ⟨n, rfl⟩ : ∃ k, n = k + 1 := ⟨n - 1, by omega⟩
    unfold Sp.slices_Equal_api_Value_api_Value_L0 Sp.B_slices_Equal_api_Value_api_Value_L0
    rw [lt_f (by omega), List.drop_eq_nil_of_le (show l.length ≤ i by omega), List.drop_eq_nil_of_le (show m.length ≤ i by omega)]
    rfl
  | succ d ih =>
    intro i n hi hn
    obtain ⟨n, rfl⟩ : ∃ k, n = k + 1 := ⟨n - 1, by omega⟩
    obtain ⟨a, ha, hda⟩ := dropv_cons (show i < l.length by omega)
    obtain ⟨b, hb, hdb⟩ := dropv_cons (show i < m.length by omega)
    unfold Sp.slices_Equal_api_Value_api_Value_L0 Sp.B_slices_Equal_api_Value_api_Value_L0
    rw [lt_t (by omega), cond_true, elemAt_enc ha, vl_cells, elemAt_enc hb, vl_cells, vl_eq, hda, hdb, next_i (by omega), ih (i + 1) n (by omega) (by omega)]
    by_cases h : a = b
    · subst h
      rw [decide_eq_true (rfl : a = a), Bool.not_true, cond_false]
      simp
    · rw [decide_eq_false h, decide_eq_false (fun e => h (List.cons.inj e).1)]
      rfl

theorem row_Same_eq (l m : List Vl) (hl : l.length ≤ 16777216) (γ : Type) (K : Bool → Option γ) : Sp.row_Same (l.map Vl.enc) (m.map Vl.enc) γ K = K (decide (l = m)) := by
  unfold Sp.row_Same Sp.B_row_Same Sp.slices_Equal_api_Value_api_Value Sp.B_slices_Equal_api_Value_api_Value
  rw [List.length_map, List.length_map]
  by_cases h : l.length = m.length
  · rw [decide_eq_true (show Int.ofNat l.length = Int.ofNat m.length by simp only [Int.ofNat_eq_natCast]; omega), Bool.not_true, cond_false]
    exact same_loop l m hl h γ K l.length 0 fuel (by omega) (by unfold fuel; omega)
  · rw [decide_eq_false (show ¬ Int.ofNat l.length = Int.ofNat m.length by simp only [Int.ofNat_eq_natCast]; omega), Bool.not_false, cond_true, decide_eq_false (fun e => h (by rw [e]))]

def iEnc (c : Int) : List Dat := [.int .i64 c]
def bEnc (c : Bool) : List Dat := [.bool c]
def uEnc (c : UInt8) : List Dat := [.int .u8 c.toNat]
def lEnc (c : List Vl) : List Dat := [R.enc c]
theorem iEnc_cell {β : Type} (c : Int) (F : Int → Option β) : (bif List.length (iEnc c) == 1 then cellAt (iEnc c) 0 fun z8 => Aev.asInt IntKind.i64 z8 fun z9 => F z9 else none) = F c := rfl
theorem bEnc_cell {β : Type} (c : Bool) (F : Bool → Option β) : (bif List.length (bEnc c) == 1 then cellAt (bEnc c) 0 fun z8 => Aev.asBool z8 fun z9 => F z9 else none) = F c := rfl

theorem head_drop {α : Type} {l : List α} {i : Nat} {x : α} (h : l[i]? = some x) : (l.drop i).head? = some x := by rw [List.head?_drop, h]

theorem lEnc_cell {β : Type} (c : List Vl) (F : List (List Dat) → Option β) : (bif List.length (lEnc c) == 1 then cellAt (lEnc c) 0 fun z8 => asSl z8 fun z9 => F z9 else none) = F (c.map Vl.enc) := rfl
theorem sized_l (l : List (List Vl)) : sized (l.map lEnc) 1 = true := sized_iff.2 fun e he => by
  obtain ⟨v, _, rfl⟩ := List.mem_map.1 he
  rfl
theorem room25 {n m : Nat} (h : n ≤ 1048576) (hm : m ≤ 1048576) : decide ((n + m) * 25 ≤ 70368744177664) = true := decide_eq_true (by omega)

theorem pos_cons {α β : Type} (f : α → β) (x : α) (l : List α) : decide (0 < Int.ofNat (List.length (List.map f (x :: l)))) = true := decide_eq_true (by simp only [List.map_cons, List.length_cons, Int.ofNat_eq_natCast]; omega)
theorem pos_nil {α β : Type} (f : α → β) : decide (0 < Int.ofNat (List.length (List.map f ([] : List α)))) = false := rfl
theorem zero_cons {α β : Type} (f : α → β) (x : α) (l : List α) : decide (Int.ofNat (List.length (List.map f (x :: l))) = 0) = false := decide_eq_false (by simp only [List.map_cons, List.length_cons, Int.ofNat_eq_natCast]; omega)
theorem zero_nil {α β : Type} (f : α → β) : decide (Int.ofNat (List.length (List.map f ([] : List α))) = 0) = true := rfl

theorem take_one {β : Type} (x : List Vl) (a acc : List (List Vl)) (hacc : acc.length ≤ 1048576) (F : List (List Dat) → List (List Dat) → Option β) :
    (elemAt ((x :: a).map lEnc) 0 fun z5 => bif List.length z5 == 1 then cellAt z5 0 fun z6 => asSl z6 fun z7 => bif true && true && true && decide ((List.length (acc.map lEnc) + 1) * 25 ≤ 70368744177664) && true then
      bif decide (1 ≤ Int.ofNat (List.length ((x :: a).map lEnc))) && decide (Int.ofNat (List.length ((x :: a).map lEnc)) ≤ Int.ofNat (List.length ((x :: a).map lEnc))) && true && sized ((x :: a).map lEnc) 1 then
        F (List.drop 1 (List.take (Int.toNat (Int.ofNat (List.length ((x :: a).map lEnc)))) ((x :: a).map lEnc))) (acc.map lEnc ++ [[Dat.sl z7]]) else none else none else none) = F (a.map lEnc) ((acc ++ [x]).map lEnc) := by
  show (bif true && true && true && decide ((List.length (acc.map lEnc) + 1) * 25 ≤ 70368744177664) && true then
      bif decide (1 ≤ Int.ofNat (List.length ((x :: a).map lEnc))) && decide (Int.ofNat (List.length ((x :: a).map lEnc)) ≤ Int.ofNat (List.length ((x :: a).map lEnc))) && true && sized ((x :: a).map lEnc) 1 then
        F (List.drop 1 (List.take (Int.toNat (Int.ofNat (List.length ((x :: a).map lEnc)))) ((x :: a).map lEnc))) (acc.map lEnc ++ [lEnc x]) else none else none) = _
  rw [sized_l, List.length_map, room25 (by omega) (by omega), decide_eq_true (show (1 : Int) ≤ Int.ofNat (List.length ((x :: a).map lEnc)) by simp only [List.map_cons, List.length_cons, Int.ofNat_eq_natCast]; omega),
    decide_eq_true (Int.le_refl _)]
  simp only [Bool.and_true, cond_true]
  congr 1
  · show List.drop 1 (List.take ((x :: a).map lEnc).length ((x :: a).map lEnc)) = _
    rw [List.take_length]; rfl
  · rw [List.map_append]; rfl

def le (x y : List Vl) : Bool := decide (R.cmp x y ≤ 0)

theorem merge_loop (γ : Type) (K : Ex → List (List Dat) → List (List Dat) → List (List Dat) → Option γ) : ∀ (d n : Nat) (a b acc : List (List Vl)), a.length + b.length = d → d < n → acc.length + d ≤ 20000 → (∀ x ∈ a, x.length ≤ 100) →
    Sp.ref02_Sort_L0 n (a.map lEnc) (b.map lEnc) (acc.map lEnc) γ K = K (Ex.exit 0) [] [] ((acc ++ List.merge a b le).map lEnc) := by
  intro d
  induction d with
  | zero =>
    intro n a b acc hd hn hacc ha
    obtain ⟨n, rfl⟩ : ∃ k, n = k + 1 := ⟨n - 1, by omega⟩
    obtain rfl : a = [] := List.eq_nil_of_length_eq_zero (by omega)
    obtain rfl : b = [] := List.eq_nil_of_length_eq_zero (by omega)
    unfold Sp.ref02_Sort_L0 Sp.B_ref02_Sort_L0
    rw [sized_l, cond_true, pos_nil, cond_false, List.merge_right, List.append_nil]
    rfl
  | succ d ih =>
    intro n a b acc hd hn hacc ha
    obtain ⟨n, rfl⟩ : ∃ k, n = k + 1 := ⟨n - 1, by omega⟩
    unfold Sp.ref02_Sort_L0 Sp.B_ref02_Sort_L0
    rw [sized_l, cond_true]
    cases a with
    | nil =>
      cases b with
      | nil => simp at hd
      | cons y b =>
        rw [pos_nil, cond_false, pos_cons, cond_true, zero_cons, cond_false, cond_false]
        refine (take_one y b acc (by omega) (fun p q => Sp.ref02_Sort_L0 n (List.map lEnc []) p q γ K)).trans ?_
        refine (ih n [] b (acc ++ [y]) (by simp at hd ⊢; omega) (by omega) (by simp; omega) (by simp)).trans ?_
        simp [List.nil_merge]
    | cons x a =>
      rw [pos_cons, cond_true]
      cases b with
      | nil =>
        rw [zero_nil, cond_true]
        refine (take_one x a acc (by omega) (fun p q => Sp.ref02_Sort_L0 n p (List.map lEnc []) q γ K)).trans ?_
        refine (ih n a [] (acc ++ [x]) (by simp at hd ⊢; omega) (by omega) (by simp; omega) (fun z hz => ha z (by simp [hz]))).trans ?_
        simp [List.merge_right]
      | cons y b =>
        rw [zero_cons, cond_false, cond_true]
        show Sp.ref02_Compare (x.map Vl.enc) (y.map Vl.enc) γ _ = _
        rw [ref02_Compare_eq x y (by have := ha x (by simp); omega), List.cons_merge_cons]
        by_cases h : R.cmp x y ≤ 0
        · rw [decide_eq_true h, cond_true, if_pos (by unfold le; exact decide_eq_true h)]
          refine (take_one x a acc (by omega) (fun p q => Sp.ref02_Sort_L0 n p (List.map lEnc (y :: b)) q γ K)).trans ?_
          refine (ih n a (y :: b) (acc ++ [x]) (by simp at hd ⊢; omega) (by omega) (by simp; omega) (fun z hz => ha z (by simp [hz]))).trans ?_
          simp
        · rw [decide_eq_false h, cond_false, if_neg (by unfold le; rw [decide_eq_false h]; exact Bool.false_ne_true)]
          refine (take_one y b acc (by omega) (fun p q => Sp.ref02_Sort_L0 n (List.map lEnc (x :: a)) p q γ K)).trans ?_
          refine (ih n (x :: a) b (acc ++ [y]) (by simp at hd ⊢; omega) (by omega) (by simp; omega) ha).trans ?_
          simp

theorem le_iff (x y : List Vl) : le x y = true ↔ ¬ R.cmp y x < 0 := by
  unfold le
  rw [decide_eq_true_iff]
  rcases R.cmp_cases x y with ⟨h1, h2, _⟩ | ⟨h1, h2, _⟩ | ⟨h1, h2, _⟩ <;> rw [h1, h2] <;> decide

theorem merge_sort (a b : List (List Vl)) : List.merge (sortBy R.cmp a) (sortBy R.cmp b) le = sortBy R.cmp (a ++ b) := by
  refine sortBy_one R.ord (fun _ _ => trivial) ?_ ?_
  · exact (List.merge_perm_append le).trans ((sortBy_perm R.cmp a).append (sortBy_perm R.cmp b))
  · have h := List.pairwise_merge (le := le)
      (fun x y z h1 h2 => (le_iff x z).2 (R.ord.ntrans z y x trivial trivial trivial ((le_iff y z).1 h2) ((le_iff x y).1 h1)))
      (fun x y => by
        cases h1 : le x y with
        | true => rfl
        | false =>
          rw [Bool.false_or]
          refine (le_iff y x).2 fun h => ?_
          have h2 : ¬ ¬ R.cmp y x < 0 := fun h => by rw [(le_iff x y).2 h] at h1; cases h1
          rcases R.cmp_cases x y with ⟨k1, k2, _⟩ | ⟨k1, k2, _⟩ | ⟨k1, k2, _⟩ <;> rw [k1] at h <;> rw [k2] at h2 <;> revert h h2 <;> decide)
      (sortBy R.cmp a) (sortBy R.cmp b) ((sortBy_up R.ord a fun _ _ => trivial).imp fun {x y} h => (le_iff x y).2 h) ((sortBy_up R.ord b fun _ _ => trivial).imp fun {x y} h => (le_iff x y).2 h)
    exact h.imp fun {x y} h => (le_iff x y).1 h

theorem ref02_Sort_eq : ∀ (n : Nat) (l : List (List Vl)), l.length ≤ n → 1 ≤ n → l.length ≤ 6000 → (∀ x ∈ l, x.length ≤ 100) → ∀ (γ : Type) (K : List (List Dat) → Option γ),
    Sp.ref02_Sort n (l.map lEnc) γ K = K ((sortBy R.cmp l).map lEnc)
  | 0, l, _, h, _, _, _, _ => by omega
  | n + 1, l, hn, _, h200, hl, γ, K => by
    unfold Sp.ref02_Sort Sp.B_ref02_Sort
    rw [List.length_map]
    by_cases h2 : l.length < 2
    · rw [decide_eq_true (show Int.ofNat l.length < 2 by simp only [Int.ofNat_eq_natCast]; omega), cond_true, sized_l, room25 (by omega) (by omega)]
      simp only [Bool.and_true, cond_true, List.nil_append]
      match l, h2 with
      | [], _ => rfl
      | [x], _ => rfl
    · rw [decide_eq_false (show ¬ Int.ofNat l.length < 2 by simp only [Int.ofNat_eq_natCast]; omega), cond_false]
      have e : IntKind.wrap IntKind.i64 (Int.tdiv (Int.ofNat l.length) 2) = ((l.length / 2 : Nat) : Int) := by
        simp only [Int.ofNat_eq_natCast]
        have : Int.tdiv (l.length : Int) 2 = ((l.length / 2 : Nat) : Int) := by rw [Int.tdiv_eq_ediv_of_nonneg (by omega)]; omega
        rw [this, wrap_i64 (by omega)]
      rw [e, decide_eq_true (show (0 : Int) ≤ ((l.length / 2 : Nat) : Int) by omega), decide_eq_true (show ((l.length / 2 : Nat) : Int) ≤ Int.ofNat l.length by simp only [Int.ofNat_eq_natCast]; omega)]
      simp only [Bool.and_true, cond_true, Int.toNat_natCast, List.drop_zero]
      rw [← List.map_take, ref02_Sort_eq n (l.take (l.length / 2)) (by rw [List.length_take]; omega) (by omega) (by rw [List.length_take]; omega) (fun x hx => hl x (List.mem_of_mem_take hx)),
        decide_eq_true (Int.le_refl _), sized_l]
      simp only [Bool.and_true, cond_true]
      have e2 : List.drop (l.length / 2) (List.take (Int.toNat (Int.ofNat l.length)) (l.map lEnc)) = (l.drop (l.length / 2)).map lEnc := by
        show List.drop (l.length / 2) (List.take l.length (l.map lEnc)) = _
        rw [List.take_of_length_le (by rw [List.length_map]; exact Nat.le_refl _), List.map_drop]
      rw [e2, ref02_Sort_eq n (l.drop (l.length / 2)) (by rw [List.length_drop]; omega) (by omega) (by rw [List.length_drop]; omega) (fun x hx => hl x (List.mem_of_mem_drop hx))]
      have p1 := (sortBy_perm R.cmp (l.take (l.length / 2))).length_eq
      have p2 := (sortBy_perm R.cmp (l.drop (l.length / 2))).length_eq
      rw [List.length_take] at p1
      rw [List.length_drop] at p2
      have := merge_loop γ (fun z5 z6 z7 z8 => bif sized z8 1 then bif Ex.isExit z5 0 then K z8 else bif Ex.isRet z5 then none else none else none) l.length fuel (sortBy R.cmp (l.take (l.length / 2))) (sortBy R.cmp (l.drop (l.length / 2))) [] (by omega) (by unfold fuel; omega) (by simp; omega)
        (fun x hx => hl x (List.mem_of_mem_take ((sortBy_perm R.cmp _).mem_iff.1 hx)))
      refine this.trans ?_
      rw [List.nil_append, merge_sort, List.take_append_drop, sized_l]
      rfl

theorem row_Sort_eq (l : List (List Vl)) (h200 : l.length ≤ 6000) (hl : ∀ x ∈ l, x.length ≤ 100) (γ : Type) (K : List (List Dat) → Option γ) : Sp.row_Sort (l.map lEnc) γ K = K ((sortBy R.cmp l).map lEnc) := by
  unfold Sp.row_Sort
  rw [show Sp.rowsOk (l.map lEnc) = true from rowsOk_enc l fun x hx => by have := hl x hx; omega, decide_eq_true (show List.length (l.map lEnc) ≤ 16777216 by rw [List.length_map]; omega)]
  show K (Sp.sortRows (l.map lEnc)) = _
  rw [show Sp.sortRows (l.map lEnc) = (sortBy R.cmp l).map lEnc from sortRows_enc l]

theorem same_list_loop (l m : List (List Vl)) (h200 : l.length ≤ 6000) (hlm : l.length = m.length) (hl : ∀ x ∈ l, x.length ≤ 100) (γ : Type) (K : Bool → Option γ) : ∀ (d i n : Nat), l.length = i + d → d < n →
    Sp.ref02_SameList_L0 n (l.map lEnc) (m.map lEnc) false (i : Int) γ (fun z4 z5 z6 => bif Ex.isExit z4 0 then K true else bif Ex.isRet z4 then K z5 else none) = K (decide (l.drop i = m.drop i)) := by
  intro d
  induction d with
  | zero =>
    intro i n hi hn
    obtain ⟨n, rfl⟩ : ∃ k, n = k + 1 := ⟨n - 1, by omega⟩
    unfold Sp.ref02_SameList_L0 Sp.B_ref02_SameList_L0
    rw [List.length_map, lt_f (by omega), List.drop_eq_nil_of_le (show l.length ≤ i by omega), List.drop_eq_nil_of_le (show m.length ≤ i by omega)]
    rfl
  | succ d ih =>
    intro i n hi hn
    obtain ⟨n, rfl⟩ : ∃ k, n = k + 1 := ⟨n - 1, by omega⟩
    obtain ⟨a, ha, hda⟩ := dropv_cons (show i < l.length by omega)
    obtain ⟨b, hb, hdb⟩ := dropv_cons (show i < m.length by omega)
    unfold Sp.ref02_SameList_L0 Sp.B_ref02_SameList_L0
    rw [List.length_map, lt_t (by omega), cond_true, elemAt_map ha, lEnc_cell, elemAt_map hb, lEnc_cell, ref02_Same_eq a b (by have := hl a (List.mem_of_getElem? ha); omega), hda, hdb, next_i (by omega), ih (i + 1) n (by omega) (by omega)]
    by_cases h : a = b
    · subst h
      rw [decide_eq_true (rfl : a = a), Bool.not_true, cond_false]
      simp
    · rw [decide_eq_false h, decide_eq_false (fun e => h (List.cons.inj e).1)]
      rfl

theorem ref02_SameList_eq (l m : List (List Vl)) (h200 : l.length ≤ 6000) (hlm : l.length = m.length) (hl : ∀ x ∈ l, x.length ≤ 100) (γ : Type) (K : Bool → Option γ) :
    Sp.ref02_SameList (l.map lEnc) (m.map lEnc) γ K = K (decide (l = m)) := by
  unfold Sp.ref02_SameList Sp.B_ref02_SameList
  rw [List.length_map, List.length_map, decide_eq_true (show Int.ofNat l.length = Int.ofNat m.length by simp only [Int.ofNat_eq_natCast]; omega), Bool.not_true, cond_false]
  exact same_list_loop l m h200 hlm hl γ K l.length 0 fuel (by omega) (by unfold fuel; omega)

end Go.Proofs.YtimdilbcijgadaaGreatDoor
