/- The plain laws of rows, II: parts of rows. -/
import Derived.Test.YtcglmokfjohdaaaK4
set_option linter.unusedVariables false
set_option linter.unusedSimpArgs false
namespace Go.Proofs.Ytcglmokfjohdaaa
open Go Go.Aev Go.RowKit
set_option maxRecDepth 100000

theorem sized_enc (l : List Vl) : sized (l.map Vl.enc) 3 = true := sized_iff.2 fun e he => by
  obtain ⟨v, _, rfl⟩ := List.mem_map.1 he
  rfl
theorem room_ok {n m k : Nat} (h : n ≤ 1048576) (hm : m ≤ 1048576) (hk : k ≤ 64) : decide ((n + m) * k ≤ 70368744177664) = true := by
  refine decide_eq_true ?_
  have h1 : (n + m) * k ≤ (n + m) * 64 := Nat.mul_le_mul_left _ hk
  omega

def odd (l : List Vl) (c : Int) : Bool := decide (c < 0) || decide ((l.length : Int) ≤ c)

theorem pick1_eq (l : List Vl) (c : Int) (γ : Type) (K : Bool → List (List Dat) → Option γ) : Sp.row_Pick_1 c (l.map Vl.enc) γ K = K (odd l c) (l.map Vl.enc) := by
  unfold Sp.row_Pick_1 Sp.B_row_Pick_1 odd
  rw [List.length_map]
  by_cases h : c < 0
  · rw [decide_eq_true h]; rfl
  · rw [decide_eq_false h]; rfl

theorem find_loop (l : List Vl) (cols : List Int) (hc : cols.length ≤ 100) (γ : Type) (K : Bool → List (List Dat) → Option γ) : ∀ (d i n : Nat), cols.length = i + d → d < n →
    Sp.slices_IndexFunc_int_int_L0 n (cols.map iEnc) (Int.ofNat cols.length) 0 (i : Int) (l.map Vl.enc) γ
      (fun z4 z5 z6 z7 => bif Ex.isExit z4 0 then K (decide (0 ≤ (-1 : Int))) z7 else bif Ex.isRet z4 then K (decide (0 ≤ z5)) z7 else none) = K ((cols.drop i).any (odd l)) (l.map Vl.enc) := by
  intro d
  induction d with
  | zero =>
    intro i n hi hn
    obtain ⟨n, rfl⟩ : ∃ k, n = k + 1 := ⟨n - 1, by omega⟩
    unfold Sp.slices_IndexFunc_int_int_L0 Sp.B_slices_IndexFunc_int_int_L0
    rw [lt_f (by omega), List.drop_eq_nil_of_le (by omega)]
    rfl
  | succ d ih =>
    intro i n hi hn
    obtain ⟨n, rfl⟩ : ∃ k, n = k + 1 := ⟨n - 1, by omega⟩
    obtain ⟨c, hcc, hdc⟩ := dropv_cons (show i < cols.length by omega)
    unfold Sp.slices_IndexFunc_int_int_L0 Sp.B_slices_IndexFunc_int_int_L0
    rw [lt_t (by omega), cond_true, elemAt_map hcc, iEnc_cell, pick1_eq, hdc, List.any_cons, next_i (by omega), ih (i + 1) n (by omega) (by omega)]
    cases odd l c with
    | true => 
      show K (decide (0 ≤ (i : Int))) _ = K true _
      rw [decide_eq_true (by omega)]
    | false => rfl

theorem find_eq (l : List Vl) (cols : List Int) (hc : cols.length ≤ 100) (γ : Type) (K : Bool → List (List Dat) → Option γ) :
    Sp.slices_ContainsFunc_int_int (cols.map iEnc) (l.map Vl.enc) γ K = K (cols.any (odd l)) (l.map Vl.enc) := by
  unfold Sp.slices_ContainsFunc_int_int Sp.B_slices_ContainsFunc_int_int Sp.slices_IndexFunc_int_int Sp.B_slices_IndexFunc_int_int
  rw [List.length_map]
  exact find_loop l cols hc γ K cols.length 0 fuel (by omega) (by unfold fuel; omega)

theorem odd_false {l : List Vl} {c : Int} (h : odd l c = false) : ¬ c < 0 ∧ ¬ Int.ofNat (List.length (l.map Vl.enc)) ≤ c := by
  simp only [odd, Bool.or_eq_false_iff, decide_eq_false_iff_not] at h
  rw [List.length_map]
  exact h

theorem at_get' {β : Type} (l : List Vl) (c : Int) (F : Int → Int → ByteArray → Option β) (h : odd l c = false) :
    (elemAt (l.map Vl.enc) c fun z10 => bif List.length z10 == 3 then cellAt z10 0 fun z9 => Aev.asInt IntKind.i64 z9 fun z10' => cellAt z10 1 fun z11 => Aev.asInt IntKind.i64 z11 fun z12 => cellAt z10 2 fun z13 => asStr z13 fun z14 => F z10' z12 z14 else none) = F (atV l c).k (atV l c).n (atV l c).s :=
  at_get l c F (odd_false h).1 (odd_false h).2

theorem enc_snoc (acc : List Vl) (v : Vl) : acc.map Vl.enc ++ [[Dat.int IntKind.i64 v.k, Dat.int IntKind.i64 v.n, Dat.str v.s]] = (acc ++ [v]).map Vl.enc := by
  rw [List.map_append]; rfl

theorem pick_loop (l : List Vl) (cols : List Int) (hc : cols.length ≤ 100) (hok : cols.any (odd l) = false) (γ : Type) (K : List (List Dat) → Int → Option γ) : ∀ (d i n : Nat) (acc : List Vl), cols.length = i + d → d < n → acc.length = i →
    Sp.row_Pick_L0 n (cols.map iEnc) (Int.ofNat cols.length) (acc.map Vl.enc) (i : Int) (l.map Vl.enc) γ
      (fun z6 z7 z8 z9 => bif sized z7 3 then bif Ex.isExit z6 0 then K z7 0 else bif Ex.isRet z6 then none else none else none) = K ((acc ++ (cols.drop i).map (atV l)).map Vl.enc) 0 := by
  intro d
  induction d with
  | zero =>
    intro i n acc hi hn ha
    obtain ⟨n, rfl⟩ : ∃ k, n = k + 1 := ⟨n - 1, by omega⟩
    unfold Sp.row_Pick_L0 Sp.B_row_Pick_L0
    rw [sized_enc, cond_true, lt_f (by omega), List.drop_eq_nil_of_le (show cols.length ≤ i by omega), cond_false]
    show (bif sized (acc.map Vl.enc) 3 then K (acc.map Vl.enc) 0 else none) = _
    rw [sized_enc, List.map_nil, List.append_nil]
    rfl
  | succ d ih =>
    intro i n acc hi hn ha
    obtain ⟨n, rfl⟩ : ∃ k, n = k + 1 := ⟨n - 1, by omega⟩
    obtain ⟨c, hcc, hdc⟩ := dropv_cons (show i < cols.length by omega)
    have hoc : odd l c = false := by
      rw [List.any_eq_false] at hok
      have := hok c (List.mem_of_getElem? hcc)
      simpa using this
    unfold Sp.row_Pick_L0 Sp.B_row_Pick_L0
    rw [sized_enc, cond_true, lt_t (by omega), cond_true, elemAt_map hcc, iEnc_cell, at_get' l c _ hoc, List.length_map, room_ok (by omega) (by omega) (by omega),
      next_i (by omega), enc_snoc, hdc]
    simp only [Bool.and_true, cond_true]
    rw [ih (i + 1) n (acc ++ [atV l c]) (by omega) (by omega) (by simp [ha])]
    simp

def pickOk (l : List Vl) (cols : List Int) : Bool := !decide (32 < cols.length) && !cols.any (odd l)

theorem row_Pick_eq (l : List Vl) (cols : List Int) (hc : cols.length ≤ 100) (γ : Type) (K : List (List Dat) → Int → Option γ) :
    Sp.row_Pick (l.map Vl.enc) (cols.map iEnc) γ K = cond (pickOk l cols) (K ((cols.map (atV l)).map Vl.enc) 0) (K [] 1) := by
  unfold Sp.row_Pick Sp.B_row_Pick pickOk
  rw [List.length_map]
  by_cases h : 32 < cols.length
  · rw [decide_eq_true (show (32 : Int) < Int.ofNat cols.length by simp only [Int.ofNat_eq_natCast]; omega), decide_eq_true h]; rfl
  · rw [decide_eq_false (show ¬ (32 : Int) < Int.ofNat cols.length by simp only [Int.ofNat_eq_natCast]; omega), decide_eq_false h, cond_false, find_eq l cols hc]
    cases ho : cols.any (odd l) with
    | true => rfl
    | false =>
      rw [cond_false]
      exact pick_loop l cols hc ho γ K cols.length 0 fuel [] (by omega) (by unfold fuel; omega) rfl

theorem ref_pick_loop (l : List Vl) (cols : List Int) (hc : cols.length ≤ 100) (γ : Type) (K : List (List Dat) → Bool → Option γ) : ∀ (d i n : Nat) (acc : List Vl), cols.length = i + d → d < n → acc.length = i →
    Sp.ref02_Pick_L0 n (l.map Vl.enc) (cols.map iEnc) [] false (acc.map Vl.enc) (i : Int) γ
      (fun z4 z5 z6 z7 z8 => bif sized z5 3 then bif sized z7 3 then bif Ex.isExit z4 0 then K z7 (decide (Int.ofNat cols.length ≤ 32)) else bif Ex.isRet z4 then K z5 z6 else none else none else none) =
      cond ((cols.drop i).any (odd l)) (K [] false) (K ((acc ++ (cols.drop i).map (atV l)).map Vl.enc) (decide (Int.ofNat cols.length ≤ 32))) := by
  intro d
  induction d with
  | zero =>
    intro i n acc hi hn ha
    obtain ⟨n, rfl⟩ : ∃ k, n = k + 1 := ⟨n - 1, by omega⟩
    unfold Sp.ref02_Pick_L0 Sp.B_ref02_Pick_L0
    rw [show sized [] 3 = true from rfl, cond_true, sized_enc, cond_true, List.length_map, lt_f (by omega), List.drop_eq_nil_of_le (show cols.length ≤ i by omega), cond_false]
    show (bif sized (acc.map Vl.enc) 3 then K (acc.map Vl.enc) (decide (Int.ofNat cols.length ≤ 32)) else none) = _
    rw [sized_enc, List.map_nil, List.append_nil]
    rfl
  | succ d ih =>
    intro i n acc hi hn ha
    obtain ⟨n, rfl⟩ : ∃ k, n = k + 1 := ⟨n - 1, by omega⟩
    obtain ⟨c, hcc, hdc⟩ := dropv_cons (show i < cols.length by omega)
    unfold Sp.ref02_Pick_L0 Sp.B_ref02_Pick_L0
    rw [show sized [] 3 = true from rfl, cond_true, sized_enc, cond_true, List.length_map, lt_t (by omega), cond_true, elemAt_map hcc, iEnc_cell, hdc, List.any_cons]
    by_cases h0 : c < 0
    · rw [decide_eq_true h0, cond_true, show odd l c = true by simp [odd, h0], Bool.true_or, cond_true]
      show (bif sized [] 3 then bif sized (acc.map Vl.enc) 3 then K [] false else none else none) = _
      rw [sized_enc]; rfl
    · rw [decide_eq_false h0, cond_false, elemAt_map hcc, iEnc_cell, List.length_map]
      by_cases h1 : Int.ofNat l.length ≤ c
      · rw [decide_eq_true h1, cond_true, show odd l c = true by simp [odd]; exact .inr h1, Bool.true_or, cond_true]
        show (bif sized [] 3 then bif sized (acc.map Vl.enc) 3 then K [] false else none else none) = _
        rw [sized_enc]; rfl
      · have hoc : odd l c = false := by
          simp only [odd, Bool.or_eq_false_iff, decide_eq_false_iff_not]
          exact ⟨h0, h1⟩
        rw [decide_eq_false h1, cond_false, elemAt_map hcc, iEnc_cell, at_get' l c _ hoc, List.length_map, room_ok (by omega) (by omega) (by omega),
          next_i (by omega), enc_snoc]
        simp only [Bool.and_true, cond_true]
        rw [ih (i + 1) n (acc ++ [atV l c]) (by omega) (by omega) (by simp [ha]), hoc, Bool.false_or]
        simp

theorem ref02_Pick_eq (l : List Vl) (cols : List Int) (hc : cols.length ≤ 100) (γ : Type) (K : List (List Dat) → Bool → Option γ) :
    Sp.ref02_Pick (l.map Vl.enc) (cols.map iEnc) γ K = cond (cols.any (odd l)) (K [] false) (K ((cols.map (atV l)).map Vl.enc) (decide (Int.ofNat cols.length ≤ 32))) := by
  unfold Sp.ref02_Pick Sp.B_ref02_Pick
  rw [List.length_map]
  exact ref_pick_loop l cols hc γ K cols.length 0 fuel [] (by omega) (by unfold fuel; omega) rfl

/-! ### Concat -/
theorem lEnc_cell {β : Type} (c : List Vl) (F : List (List Dat) → Option β) : (bif List.length (lEnc c) == 1 then cellAt (lEnc c) 0 fun z8 => asSl z8 fun z9 => F z9 else none) = F (c.map Vl.enc) := rfl

def total : List (List Vl) → Nat
  | [] => 0
  | l :: r => l.length + total r

theorem concat_loop (ss : List (List Vl)) (hs : ss.length ≤ 1000) (γ : Type) (K : Ex → Int → Int → Option γ) : ∀ (d i n z : Nat), ss.length = i + d → d < n → z + total (ss.drop i) ≤ 1048576 →
    Sp.slices_Concat_api_Value_api_Value_L0 n (ss.map lEnc) (ss.map lEnc) (Int.ofNat ss.length) (z : Int) (i : Int) γ K = K (Ex.exit 0) ((z + total (ss.drop i) : Nat) : Int) (ss.length : Int) := by
  intro d
  induction d with
  | zero =>
    intro i n z hi hn hz
    obtain ⟨n, rfl⟩ : ∃ k, n = k + 1 := ⟨n - 1, by omega⟩
    unfold Sp.slices_Concat_api_Value_api_Value_L0 Sp.B_slices_Concat_api_Value_api_Value_L0
    rw [lt_f (by omega), List.drop_eq_nil_of_le (show ss.length ≤ i by omega), cond_false, show i = ss.length by omega]
    rfl
  | succ d ih =>
    intro i n z hi hn hz
    obtain ⟨n, rfl⟩ : ∃ k, n = k + 1 := ⟨n - 1, by omega⟩
    obtain ⟨c, hcc, hdc⟩ := dropv_cons (show i < ss.length by omega)
    rw [hdc] at hz
    simp only [total] at hz
    unfold Sp.slices_Concat_api_Value_api_Value_L0 Sp.B_slices_Concat_api_Value_api_Value_L0
    rw [lt_t (by omega), cond_true, elemAt_map hcc, lEnc_cell, List.length_map]
    have e : IntKind.wrap IntKind.i64 ((z : Int) + Int.ofNat c.length) = ((z + c.length : Nat) : Int) := by
      simp only [Int.ofNat_eq_natCast]
      rw [wrap_i64 (by omega)]; omega
    rw [e, decide_eq_false (by omega), cond_false, next_i (by omega), ih (i + 1) n (z + c.length) (by omega) (by omega) (by omega), hdc]
    simp only [total, Nat.add_assoc]

theorem concat_loop2 (ss : List (List Vl)) (hs : ss.length ≤ 1000) (γ : Type) (K : Ex → List (List Dat) → Int → Option γ) : ∀ (d i n : Nat) (acc : List Vl), ss.length = i + d → d < n → acc.length + total (ss.drop i) ≤ 1048576 →
    Sp.slices_Concat_api_Value_api_Value_L2 n (ss.map lEnc) (Int.ofNat ss.length) (acc.map Vl.enc) (i : Int) γ K = K (Ex.exit 2) ((acc ++ (ss.drop i).flatten).map Vl.enc) (ss.length : Int) := by
  intro d
  induction d with
  | zero =>
    intro i n acc hi hn hz
    obtain ⟨n, rfl⟩ : ∃ k, n = k + 1 := ⟨n - 1, by omega⟩
    unfold Sp.slices_Concat_api_Value_api_Value_L2 Sp.B_slices_Concat_api_Value_api_Value_L2
    rw [sized_enc, cond_true, lt_f (by omega), List.drop_eq_nil_of_le (show ss.length ≤ i by omega), cond_false, show i = ss.length by omega, List.flatten_nil, List.append_nil]
  | succ d ih =>
    intro i n acc hi hn hz
    obtain ⟨n, rfl⟩ : ∃ k, n = k + 1 := ⟨n - 1, by omega⟩
    obtain ⟨c, hcc, hdc⟩ := dropv_cons (show i < ss.length by omega)
    rw [hdc] at hz
    simp only [total] at hz
    unfold Sp.slices_Concat_api_Value_api_Value_L2 Sp.B_slices_Concat_api_Value_api_Value_L2
    rw [sized_enc, cond_true, lt_t (by omega), cond_true, elemAt_map hcc, lEnc_cell, sized_enc, List.length_map, List.length_map, room_ok (by omega) (by omega) (by omega), ← List.map_append, next_i (by omega),
      ih (i + 1) n (acc ++ c) (by omega) (by omega) (by simp only [List.length_append]; omega), hdc]
    simp

theorem concat_eq (ss : List (List Vl)) (hs : ss.length ≤ 1000) (hz : total ss ≤ 1048576) (γ : Type) (K : List (List Dat) → Option γ) :
    Sp.slices_Concat_api_Value_api_Value (ss.map lEnc) γ K = K (ss.flatten.map Vl.enc) := by
  unfold Sp.slices_Concat_api_Value_api_Value Sp.B_slices_Concat_api_Value_api_Value
  rw [List.length_map]
  have h1 := concat_loop ss hs γ (K := fun z3 z4 z5 => bif Ex.isExit z3 0 then bif decide (0 ≤ z4) && decide (Int.toNat z4 * 33 ≤ 70368744177664) && true then Sp.slices_Concat_api_Value_api_Value_L2 fuel (ss.map lEnc) (Int.ofNat ss.length) [] 0 γ fun (z7 : Ex) (z8 : List (List Dat)) (z9 : Int) => bif sized z8 3 then bif Ex.isExit z7 2 then K z8 else bif Ex.isRet z7 then none else none else none else none else bif Ex.isRet z3 then none else none) ss.length 0 fuel 0 (by omega) (by unfold fuel; omega) (by simpa using hz)
  refine h1.trans ?_
  have h2 := concat_loop2 ss hs γ (K := fun z7 z8 z9 => bif sized z8 3 then bif Ex.isExit z7 2 then K z8 else bif Ex.isRet z7 then none else none else none) ss.length 0 fuel [] (by omega) (by unfold fuel; omega) (by simpa using hz)
  rw [List.drop_zero, Nat.zero_add, decide_eq_true (show (0 : Int) ≤ ((total ss : Nat) : Int) by omega), decide_eq_true (show Int.toNat ((total ss : Nat) : Int) * 33 ≤ 70368744177664 by omega)]
  refine h2.trans ?_
  rw [List.drop_zero, List.nil_append, sized_enc]
  rfl

theorem row_Join_eq (a b : List Vl) (ha : a.length ≤ 100) (hb : b.length ≤ 100) (γ : Type) (K : List (List Dat) → Int → Option γ) :
    Sp.row_Join (a.map Vl.enc) (b.map Vl.enc) γ K = cond (decide (32 < a.length + b.length)) (K [] 3) (K ((a ++ b).map Vl.enc) 0) := by
  unfold Sp.row_Join Sp.B_row_Join
  rw [List.length_map, List.length_map]
  have e : IntKind.wrap IntKind.i64 (Int.ofNat a.length + Int.ofNat b.length) = ((a.length + b.length : Nat) : Int) := by
    simp only [Int.ofNat_eq_natCast]
    rw [wrap_i64 (by omega)]; omega
  rw [e]
  by_cases h : 32 < a.length + b.length
  · rw [decide_eq_true (show (32 : Int) < ((a.length + b.length : Nat) : Int) by omega), decide_eq_true h]; rfl
  · rw [decide_eq_false (show ¬ (32 : Int) < ((a.length + b.length : Nat) : Int) by omega), decide_eq_false h, cond_false]
    have := concat_eq [a, b] (by simp) (by simp [total]; omega) γ (fun z4 => K z4 0)
    simp only [List.flatten_cons, List.flatten_nil, List.append_nil] at this
    exact this

theorem nulls_enc (n : Nat) : List.replicate n [Dat.int IntKind.i64 0, Dat.int IntKind.i64 0, Dat.str (bs [])] = (List.replicate n V0).map Vl.enc := by
  rw [List.map_replicate]; rfl

def nullsOk (n : Int) : Bool := decide (0 ≤ n) && decide (n ≤ 32)
theorem row_Nulls_eq (n : Int) (γ : Type) (K : List (List Dat) → Int → Option γ) :
    Sp.row_Nulls n γ K = cond (nullsOk n) (K ((List.replicate n.toNat V0).map Vl.enc) 0) (K [] 1) := by
  unfold Sp.row_Nulls Sp.B_row_Nulls nullsOk
  by_cases h0 : n < 0
  · rw [decide_eq_true h0, decide_eq_false (show ¬ 0 ≤ n by omega)]; rfl
  · by_cases h1 : 32 < n
    · rw [decide_eq_false h0, decide_eq_true h1, decide_eq_true (show 0 ≤ n by omega), decide_eq_false (show ¬ n ≤ 32 by omega)]; rfl
    · rw [decide_eq_false h0, decide_eq_false h1, decide_eq_true (show 0 ≤ n by omega), decide_eq_true (show n ≤ 32 by omega), decide_eq_true (Int.le_refl n), decide_eq_true (show n * 33 ≤ 70368744177664 by omega), nulls_enc]; rfl

set_option maxHeartbeats 4000000 in
theorem parts (lives : ∀ (γ : Type) (K : Bool → Option γ), Sp.law02_lives γ K = K true) (a b : List Vl) (cols : List Int) (n : Int) (γ : Type) (K : Bool → Option γ) :
    Sp.law02_RowParts (a.map Vl.enc) (b.map Vl.enc) (cols.map iEnc) n γ K = K true := by
  unfold Sp.law02_RowParts Sp.B_law02_RowParts
  rw [large_eq]
  cases ha : large a with
  | true => rw [cond_true, lives]
  | false =>
    rw [cond_false, large_eq]
    cases hb : large b with
    | true => rw [cond_true, lives]
    | false =>
      rw [cond_false, List.length_map]
      by_cases hc : 100 < cols.length
      · rw [decide_eq_true (show (100 : Int) < Int.ofNat cols.length by simp only [Int.ofNat_eq_natCast]; omega), cond_true, lives]
      · rw [decide_eq_false (show ¬ (100 : Int) < Int.ofNat cols.length by simp only [Int.ofNat_eq_natCast]; omega), cond_false]
        have h1 := (large_false ha).1
        have h2 := (large_false hb).1
        have hsame : ∀ l : List Vl, l.length ≤ 1000 → ∀ K : Bool → Option γ, Sp.ref02_Same (l.map Vl.enc) (l.map Vl.enc) γ K = K true := fun l hl K => by
          rw [ref02_Same_eq l l (by omega), decide_eq_true rfl]
        have e : IntKind.wrap IntKind.i64 (Int.ofNat a.length + Int.ofNat b.length) = ((a.length + b.length : Nat) : Int) := by
          simp only [Int.ofNat_eq_natCast]
          rw [wrap_i64 (by omega)]; omega
        have hj : ∀ K : Bool → Option γ, Sp.ref02_Same ((a ++ b).map Vl.enc) (a.map Vl.enc ++ b.map Vl.enc) γ K = K true := fun K => by
          rw [← List.map_append]
          exact hsame _ (by simp; omega) K
        have hn : nullsOk n = true → ∀ K : Bool → Option γ, Sp.ref02_Same ((List.replicate n.toNat V0).map Vl.enc) (List.replicate n.toNat [Dat.int IntKind.i64 0, Dat.int IntKind.i64 0, Dat.str (bs [])]) γ K = K true := fun hno K => by
          simp only [nullsOk, Bool.and_eq_true, decide_eq_true_eq] at hno
          rw [nulls_enc]
          exact hsame _ (by simp; omega) K
        have hrest : ∀ (z13 z15 : List (List Dat)) (z14 z16 : Int), (decide (32 < a.length + b.length) = true → z13 = [] ∧ z14 = 3) → (decide (32 < a.length + b.length) = false → z13 = (a ++ b).map Vl.enc ∧ z14 = 0) →
            (nullsOk n = true → z15 = (List.replicate n.toNat V0).map Vl.enc ∧ z16 = 0) → (nullsOk n = false → z15 = [] ∧ z16 = 1) →
            (bif decide (32 < IntKind.wrap IntKind.i64 (Int.ofNat (List.length (a.map Vl.enc)) + Int.ofNat (List.length (b.map Vl.enc)))) then bif !decide (z14 = 3) then K false else bif decide (0 < Int.ofNat (List.length z13)) then K false else bif decide (n < 0) then bif decide (z16 = 1) then K (decide (Int.ofNat (List.length z15) = 0)) else K false else bif decide (32 < n) then bif decide (z16 = 1) then K (decide (Int.ofNat (List.length z15) = 0)) else K false else bif decide (z16 = 0) then bif decide (0 ≤ n) && decide (n ≤ n) && decide (n * 33 ≤ 70368744177664) && true && true then Sp.ref02_Same z15 (List.replicate (Int.toNat n) [Dat.int IntKind.i64 0, Dat.int IntKind.i64 0, Dat.str (bs [])]) γ fun (z24 : Bool) => K z24 else none else K false else bif !decide (z14 = 0) then K false else bif sized (a.map Vl.enc) 3 && true && decide ((0 + List.length (a.map Vl.enc)) * 33 ≤ 70368744177664) && true then bif sized ([] ++ a.map Vl.enc) 3 && sized (b.map Vl.enc) 3 && true && decide ((List.length ([] ++ a.map Vl.enc) + List.length (b.map Vl.enc)) * 33 ≤ 70368744177664) && true then Sp.ref02_Same z13 ([] ++ a.map Vl.enc ++ b.map Vl.enc) γ fun (z25 : Bool) => bif !z25 then K false else bif decide (n < 0) then bif decide (z16 = 1) then K (decide (Int.ofNat (List.length z15) = 0)) else K false else bif decide (32 < n) then bif decide (z16 = 1) then K (decide (Int.ofNat (List.length z15) = 0)) else K false else bif decide (z16 = 0) then bif decide (0 ≤ n) && decide (n ≤ n) && decide (n * 33 ≤ 70368744177664) && true && true then Sp.ref02_Same z15 (List.replicate (Int.toNat n) [Dat.int IntKind.i64 0, Dat.int IntKind.i64 0, Dat.str (bs [])]) γ fun (z26 : Bool) => K z26 else none else K false else none else none) = K true := by
          intro z13 z15 z14 z16 k1 k2 k3 k4
          have htail : (bif decide (n < 0) then bif decide (z16 = 1) then K (decide (Int.ofNat (List.length z15) = 0)) else K false else bif decide (32 < n) then bif decide (z16 = 1) then K (decide (Int.ofNat (List.length z15) = 0)) else K false else bif decide (z16 = 0) then bif decide (0 ≤ n) && decide (n ≤ n) && decide (n * 33 ≤ 70368744177664) && true && true then Sp.ref02_Same z15 (List.replicate (Int.toNat n) [Dat.int IntKind.i64 0, Dat.int IntKind.i64 0, Dat.str (bs [])]) γ fun (z26 : Bool) => K z26 else none else K false) = K true := by
            cases hno : nullsOk n with
            | true =>
              obtain ⟨rfl, rfl⟩ := k3 hno
              have hno' := hno
              simp only [nullsOk, Bool.and_eq_true, decide_eq_true_eq] at hno'
              rw [decide_eq_false (show ¬ n < 0 by omega), cond_false, decide_eq_false (show ¬ 32 < n by omega), cond_false, decide_eq_true rfl, cond_true, decide_eq_true (show 0 ≤ n by omega), decide_eq_true (Int.le_refl n), decide_eq_true (show n * 33 ≤ 70368744177664 by omega)]
              exact hn hno K
            | false =>
              obtain ⟨rfl, rfl⟩ := k4 hno
              by_cases h0 : n < 0
              · rw [decide_eq_true h0]; rfl
              · rw [decide_eq_false h0, cond_false, decide_eq_true (show 32 < n by simp only [nullsOk, Bool.and_eq_false_iff, decide_eq_false_iff_not] at hno; omega)]; rfl
          rw [List.length_map, List.length_map, e]
          by_cases hl : 32 < a.length + b.length
          · obtain ⟨rfl, rfl⟩ := k1 (decide_eq_true hl)
            rw [decide_eq_true (show (32 : Int) < ((a.length + b.length : Nat) : Int) by omega), cond_true, decide_eq_true (rfl : (3 : Int) = 3), Bool.not_true, cond_false,
              show decide (0 < Int.ofNat (List.length ([] : List (List Dat)))) = false from rfl, cond_false, htail]
          · obtain ⟨rfl, rfl⟩ := k2 (decide_eq_false hl)
            rw [decide_eq_false (show ¬ (32 : Int) < ((a.length + b.length : Nat) : Int) by omega), cond_false, decide_eq_true (rfl : (0 : Int) = 0), Bool.not_true, cond_false, sized_enc, room_ok (by omega) (by omega) (by omega),
              List.nil_append, List.length_map, sized_enc, sized_enc, room_ok (by omega) (by omega) (by omega)]
            simp only [Bool.and_true, cond_true] at htail ⊢
            rw [hj, Bool.not_true, cond_false, htail]
        rw [row_Pick_eq a cols (by omega)]
        have hf : ∀ (R S T : Option γ), R = K true → (bif !true then K false else bif !(decide ((1 : Int) = 0) == false) then K false else bif false then S else bif !false then bif !decide ((1 : Int) = 1) then K false else bif decide (0 < Int.ofNat (List.length ([] : List (List Dat)))) then K false else R else T) = K true :=
          fun R S T h => h
        cases hp : pickOk a cols with
        | true =>
          have hp' := hp
          simp only [pickOk, Bool.and_eq_true, Bool.not_eq_true', decide_eq_false_iff_not] at hp'
          have hsp := hsame (cols.map (atV a)) (by rw [List.length_map]; omega)
          have ht : ∀ (R S T : Option γ), R = K true → (bif !true then K false else bif !(decide ((0 : Int) = 0) == true) then K false else bif true then Sp.ref02_Same ((cols.map (atV a)).map Vl.enc) ((cols.map (atV a)).map Vl.enc) γ (fun z20 => bif !z20 then K false else bif !true then S else R) else T) = K true :=
            fun R S T h => by
              have e9 : (!(decide ((0 : Int) = 0) == true)) = false := rfl
              rw [e9]
              simp only [Bool.not_true, cond_false, cond_true]
              rw [hsp]
              simp only [Bool.not_true, cond_false, cond_true]
              exact h
          rw [cond_true, row_Join_eq a b h1 h2]
          cases hj' : decide (32 < a.length + b.length) with
          | true =>
            rw [cond_true, row_Nulls_eq]
            cases hno : nullsOk n with
            | true =>
              rw [cond_true, ref02_Pick_eq a cols (by omega), hp'.2, cond_false, decide_eq_true (show Int.ofNat cols.length ≤ 32 by simp only [Int.ofNat_eq_natCast]; omega), lives]
              exact ht _ _ _ <| hrest [] ((List.replicate n.toNat V0).map Vl.enc) 3 0 (fun _ => ⟨rfl, rfl⟩) (fun h => by rw [hj'] at h; cases h) (fun _ => ⟨rfl, rfl⟩) (fun h => by rw [hno] at h; cases h)
            | false =>
              rw [cond_false, ref02_Pick_eq a cols (by omega), hp'.2, cond_false, decide_eq_true (show Int.ofNat cols.length ≤ 32 by simp only [Int.ofNat_eq_natCast]; omega), lives]
              exact ht _ _ _ <| hrest [] [] 3 1 (fun _ => ⟨rfl, rfl⟩) (fun h => by rw [hj'] at h; cases h) (fun h => by rw [hno] at h; cases h) (fun _ => ⟨rfl, rfl⟩)
          | false =>
            rw [cond_false, row_Nulls_eq]
            cases hno : nullsOk n with
            | true =>
              rw [cond_true, ref02_Pick_eq a cols (by omega), hp'.2, cond_false, decide_eq_true (show Int.ofNat cols.length ≤ 32 by simp only [Int.ofNat_eq_natCast]; omega), lives]
              exact ht _ _ _ <| hrest ((a ++ b).map Vl.enc) ((List.replicate n.toNat V0).map Vl.enc) 0 0 (fun h => by rw [hj'] at h; cases h) (fun _ => ⟨rfl, rfl⟩) (fun _ => ⟨rfl, rfl⟩) (fun h => by rw [hno] at h; cases h)
            | false =>
              rw [cond_false, ref02_Pick_eq a cols (by omega), hp'.2, cond_false, decide_eq_true (show Int.ofNat cols.length ≤ 32 by simp only [Int.ofNat_eq_natCast]; omega), lives]
              exact ht _ _ _ <| hrest ((a ++ b).map Vl.enc) [] 0 1 (fun h => by rw [hj'] at h; cases h) (fun _ => ⟨rfl, rfl⟩) (fun h => by rw [hno] at h; cases h) (fun _ => ⟨rfl, rfl⟩)
        | false =>
          rw [cond_false, row_Join_eq a b h1 h2]
          cases hj' : decide (32 < a.length + b.length) with
          | true =>
            rw [cond_true, row_Nulls_eq]
            cases hno : nullsOk n with
            | true =>
              rw [cond_true, ref02_Pick_eq a cols (by omega)]
              cases ho : cols.any (odd a) with
              | true =>
                rw [cond_true, lives]
                exact hf _ _ _ <| hrest [] ((List.replicate n.toNat V0).map Vl.enc) 3 0 (fun _ => ⟨rfl, rfl⟩) (fun h => by rw [hj'] at h; cases h) (fun _ => ⟨rfl, rfl⟩) (fun h => by rw [hno] at h; cases h)
              | false =>
                rw [cond_false, decide_eq_false (show ¬ Int.ofNat cols.length ≤ 32 by
                  simp only [pickOk, ho, Bool.not_false, Bool.and_true, Bool.not_eq_false', decide_eq_true_eq] at hp
                  simp only [Int.ofNat_eq_natCast]; omega), lives]
                exact hf _ _ _ <| hrest [] ((List.replicate n.toNat V0).map Vl.enc) 3 0 (fun _ => ⟨rfl, rfl⟩) (fun h => by rw [hj'] at h; cases h) (fun _ => ⟨rfl, rfl⟩) (fun h => by rw [hno] at h; cases h)
            | false =>
              rw [cond_false, ref02_Pick_eq a cols (by omega)]
              cases ho : cols.any (odd a) with
              | true =>
                rw [cond_true, lives]
                exact hf _ _ _ <| hrest [] [] 3 1 (fun _ => ⟨rfl, rfl⟩) (fun h => by rw [hj'] at h; cases h) (fun h => by rw [hno] at h; cases h) (fun _ => ⟨rfl, rfl⟩)
              | false =>
                rw [cond_false, decide_eq_false (show ¬ Int.ofNat cols.length ≤ 32 by
                  simp only [pickOk, ho, Bool.not_false, Bool.and_true, Bool.not_eq_false', decide_eq_true_eq] at hp
                  simp only [Int.ofNat_eq_natCast]; omega), lives]
                exact hf _ _ _ <| hrest [] [] 3 1 (fun _ => ⟨rfl, rfl⟩) (fun h => by rw [hj'] at h; cases h) (fun h => by rw [hno] at h; cases h) (fun _ => ⟨rfl, rfl⟩)
          | false =>
            rw [cond_false, row_Nulls_eq]
            cases hno : nullsOk n with
            | true =>
              rw [cond_true, ref02_Pick_eq a cols (by omega)]
              cases ho : cols.any (odd a) with
              | true =>
                rw [cond_true, lives]
                exact hf _ _ _ <| hrest ((a ++ b).map Vl.enc) ((List.replicate n.toNat V0).map Vl.enc) 0 0 (fun h => by rw [hj'] at h; cases h) (fun _ => ⟨rfl, rfl⟩) (fun _ => ⟨rfl, rfl⟩) (fun h => by rw [hno] at h; cases h)
              | false =>
                rw [cond_false, decide_eq_false (show ¬ Int.ofNat cols.length ≤ 32 by
                  simp only [pickOk, ho, Bool.not_false, Bool.and_true, Bool.not_eq_false', decide_eq_true_eq] at hp
                  simp only [Int.ofNat_eq_natCast]; omega), lives]
                exact hf _ _ _ <| hrest ((a ++ b).map Vl.enc) ((List.replicate n.toNat V0).map Vl.enc) 0 0 (fun h => by rw [hj'] at h; cases h) (fun _ => ⟨rfl, rfl⟩) (fun _ => ⟨rfl, rfl⟩) (fun h => by rw [hno] at h; cases h)
            | false =>
              rw [cond_false, ref02_Pick_eq a cols (by omega)]
              cases ho : cols.any (odd a) with
              | true =>
                rw [cond_true, lives]
                exact hf _ _ _ <| hrest ((a ++ b).map Vl.enc) [] 0 1 (fun h => by rw [hj'] at h; cases h) (fun _ => ⟨rfl, rfl⟩) (fun h => by rw [hno] at h; cases h) (fun _ => ⟨rfl, rfl⟩)
              | false =>
                rw [cond_false, decide_eq_false (show ¬ Int.ofNat cols.length ≤ 32 by
                  simp only [pickOk, ho, Bool.not_false, Bool.and_true, Bool.not_eq_false', decide_eq_true_eq] at hp
                  simp only [Int.ofNat_eq_natCast]; omega), lives]
                exact hf _ _ _ <| hrest ((a ++ b).map Vl.enc) [] 0 1 (fun h => by rw [hj'] at h; cases h) (fun _ => ⟨rfl, rfl⟩) (fun h => by rw [hno] at h; cases h) (fun _ => ⟨rfl, rfl⟩)
end Go.Proofs.Ytcglmokfjohdaaa
