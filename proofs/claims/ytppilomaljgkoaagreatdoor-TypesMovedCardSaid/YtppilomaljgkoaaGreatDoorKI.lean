/- The type of an expression. -/
import Derived.Test.YtppilomaljgkoaaGreatDoorK9
set_option linter.unusedVariables false
set_option linter.unusedSimpArgs false
namespace Go.Proofs.YtppilomaljgkoaaGreatDoor
open Go Go.Aev Go.RowKit Go.Sort
theorem sized_I (l : List Int) : sized (l.map iEnc) 1 = true := by
  unfold sized
  rw [List.all_eq_true]
  intro e he
  obtain ⟨c, _, rfl⟩ := List.mem_map.1 he
  rfl
theorem elem_I {β : Type} {l : List Int} {i : Nat} (hlt : i < l.length) (G : Int → Option β) :
    (elemAt (l.map iEnc) (i : Int) fun z => bif List.length z == 1 then cellAt z 0 fun z1 => Aev.asInt IntKind.i64 z1 fun a => G a else none) = G l[i] := by
  have he : (l.map iEnc)[i]? = some (iEnc l[i]) := by rw [List.getElem?_map, List.getElem?_eq_getElem hlt]; rfl
  rw [elemAt_some he]
  rfl
theorem map_snoc (l : List Int) (x : Int) : l.map iEnc ++ [[.int .i64 x]] = (l ++ [x]).map iEnc := by rw [List.map_append]; rfl
def fit (want t : Int) : Bool := decide (t = want) || decide (t = 0)
theorem fit_eq (t want : Int) (γ : Type) (K : Bool → Int → Option γ) : Sp.types_all_1 t want γ K = K (!fit want t) want := by
  unfold Sp.types_all_1 Sp.B_types_all_1 fit
  cases decide (t = want) <;> simp
theorem fits_eq (t want : Int) (γ : Type) (K : Bool → Option γ) : Sp.ref14_fits t want γ K = K (fit want t) := by
  unfold Sp.ref14_fits Sp.B_ref14_fits fit
  cases decide (t = want) <;> simp
theorem all_loop (l : List Int) (want : Int) (hl : l.length ≤ 16777216) (γ : Type) (K : Bool → Option γ) : ∀ (d i n : Nat), l.length = i + d → d < n →
    (Sp.slices_IndexFunc_int_int_L0 n (l.map iEnc) (Int.ofNat l.length) 0 (i : Int) want γ fun (z4 : Ex) (z5 z6 z7 : Int) => bif Ex.isExit z4 0 then K (!decide ((0 : Int) ≤ -1)) else bif Ex.isRet z4 then K (!decide (0 ≤ z5)) else none) = K ((l.drop i).all (fit want)) := by
  intro d
  induction d with
  | zero =>
    intro i n hi hn
    obtain ⟨n, rfl⟩ : ∃ m, n = m + 1 := ⟨n - 1, by omega⟩
    have : l.drop i = [] := List.drop_eq_nil_of_le (by omega)
    rw [this, Sp.slices_IndexFunc_int_int_L0]
    unfold Sp.B_slices_IndexFunc_int_int_L0
    rw [decide_eq_false (by simp only [Int.ofNat_eq_natCast]; omega)]
    rfl
  | succ d ih =>
    intro i n hi hn
    obtain ⟨n, rfl⟩ : ∃ m, n = m + 1 := ⟨n - 1, by omega⟩
    have hlt : i < l.length := by omega
    have hd : l.drop i = l[i] :: l.drop (i + 1) := List.drop_eq_getElem_cons hlt
    rw [Sp.slices_IndexFunc_int_int_L0]
    unfold Sp.B_slices_IndexFunc_int_int_L0
    rw [decide_eq_true (by simp only [Int.ofNat_eq_natCast]; omega), cond_true, elem_I hlt, fit_eq, hd, List.all_cons]
    cases hp : fit want l[i] with
    | false =>
      simp only [Bool.not_false, cond_true, Bool.false_and]
      show (bif false then _ else bif true then K (!decide ((0 : Int) ≤ (i : Int))) else none) = _
      rw [decide_eq_true (show (0 : Int) ≤ (i : Int) by omega)]
      rfl
    | true =>
      rw [Bool.not_true, cond_false, nextI (by omega), ih (i + 1) n (by omega) (by omega), Bool.true_and]
theorem all_eq (l : List Int) (want : Int) (hl : l.length ≤ 1000000) (γ : Type) (K : Bool → Option γ) : Sp.types_all (l.map iEnc) want γ K = K (l.all (fit want)) := by
  unfold Sp.types_all Sp.B_types_all Sp.slices_ContainsFunc_int_int Sp.B_slices_ContainsFunc_int_int Sp.slices_IndexFunc_int_int Sp.B_slices_IndexFunc_int_int
  rw [List.length_map]
  exact all_loop l want (by omega) γ K l.length 0 fuel (by omega) (by unfold fuel; omega)
theorem of_loop2 (l : List Int) (hl : l.length ≤ 16777216) (γ : Type) (K : Int → Bool → Option γ) : ∀ (d i n : Nat), l.length = i + d → d < n →
    (Sp.ref14_of_L2 n (l.map iEnc) 0 false (i : Int) γ fun (z25 : Ex) (z26 : Int) (z27 : Bool) (z28 : Int) => bif Ex.isExit z25 2 then K 1 true else bif Ex.isRet z25 then K z26 z27 else none) = cond ((l.drop i).all (fit 1)) (K 1 true) (K 0 false) := by
  intro d
  induction d with
  | zero =>
    intro i n hi hn
    obtain ⟨n, rfl⟩ : ∃ m, n = m + 1 := ⟨n - 1, by omega⟩
    have : l.drop i = [] := List.drop_eq_nil_of_le (by omega)
    rw [this, Sp.ref14_of_L2]
    unfold Sp.B_ref14_of_L2
    rw [List.length_map, decide_eq_false (by simp only [Int.ofNat_eq_natCast]; omega)]
    rfl
  | succ d ih =>
    intro i n hi hn
    obtain ⟨n, rfl⟩ : ∃ m, n = m + 1 := ⟨n - 1, by omega⟩
    have hlt : i < l.length := by omega
    have hd : l.drop i = l[i] :: l.drop (i + 1) := List.drop_eq_getElem_cons hlt
    rw [Sp.ref14_of_L2]
    unfold Sp.B_ref14_of_L2
    rw [List.length_map, decide_eq_true (by simp only [Int.ofNat_eq_natCast]; omega), cond_true, elem_I hlt, fits_eq, hd, List.all_cons]
    cases hp : fit 1 l[i] with
    | false => rfl
    | true => rw [Bool.not_true, cond_false, nextI (by omega), ih (i + 1) n (by omega) (by omega), Bool.true_and]
theorem of_loop4 (l : List Int) (hl : l.length ≤ 16777216) (γ : Type) (K : Int → Bool → Option γ) : ∀ (d i n : Nat), l.length = i + d → d < n →
    (Sp.ref14_of_L4 n (l.map iEnc) 0 false (i : Int) γ fun (z25 : Ex) (z26 : Int) (z27 : Bool) (z28 : Int) => bif Ex.isExit z25 4 then K 2 true else bif Ex.isRet z25 then K z26 z27 else none) = cond ((l.drop i).all (fit 2)) (K 2 true) (K 0 false) := by
  intro d
  induction d with
  | zero =>
    intro i n hi hn
    obtain ⟨n, rfl⟩ : ∃ m, n = m + 1 := ⟨n - 1, by omega⟩
    have : l.drop i = [] := List.drop_eq_nil_of_le (by omega)
    rw [this, Sp.ref14_of_L4]
    unfold Sp.B_ref14_of_L4
    rw [List.length_map, decide_eq_false (by simp only [Int.ofNat_eq_natCast]; omega)]
    rfl
  | succ d ih =>
    intro i n hi hn
    obtain ⟨n, rfl⟩ : ∃ m, n = m + 1 := ⟨n - 1, by omega⟩
    have hlt : i < l.length := by omega
    have hd : l.drop i = l[i] :: l.drop (i + 1) := List.drop_eq_getElem_cons hlt
    rw [Sp.ref14_of_L4]
    unfold Sp.B_ref14_of_L4
    rw [List.length_map, decide_eq_true (by simp only [Int.ofNat_eq_natCast]; omega), cond_true, elem_I hlt, fits_eq, hd, List.all_cons]
    cases hp : fit 2 l[i] with
    | false => rfl
    | true => rw [Bool.not_true, cond_false, nextI (by omega), ih (i + 1) n (by omega) (by omega), Bool.true_and]
def eqT (a b : Int) : Bool := decide (a = b) || (decide (a = 0) || decide (b = 0))
def ofP (k n : Int) (l : List Int) : Int × Bool :=
  if k = 4 then (if n = 1 then (2, true) else if n = 2 then (2, true) else if n = 3 then (2, l.all (fit 2)) else (l.headD 0, true))
  else if n ≤ 3 then (1, l.all (fit 1)) else if n ≤ 9 then (1, eqT (l.headD 0) (l.tail.headD 0)) else if n ≤ 15 then (2, l.all (fit 2)) else (1, true)
def ofT (k n : Int) (l : List Int) : Int × Int := cond (ofP k n l).2 ((ofP k n l).1, 0) (0, 141)
def err (f : Int) : Dat := cond (decide (f = 0)) Dat.nilI (Dat.ifp 79 [.int .i64 f])
theorem err_ifc (f : Int) : isIfc (err f) = true := by unfold err; cases decide (f = 0) <;> rfl
theorem err_nil (f : Int) : isNilI (err f) = decide (f = 0) := by unfold err; cases decide (f = 0) <;> rfl
theorem number_err (f : Int) (γ : Type) (K : Int → Option γ) : Sp.types_number (err f) γ K = K f := by
  unfold err
  by_cases h : f = 0
  · subst h; rfl
  · rw [decide_eq_false h]; rfl
def Fits (k n : Int) (l : List Int) : Prop := (k = 4 ∧ n = 1 ∧ l = []) ∨ (k = 4 ∧ 2 ≤ n ∧ ∃ a, l = [a]) ∨ (k = 3 ∧ (n ≤ 3 ∨ 9 < n) ∧ l.length ≤ 2) ∨ (k = 3 ∧ ∃ a b, l = [a, b])
theorem agg_fin {n : Int} {l : List Int} (hf : Fits 4 n l) (γ : Type) (K : Int → Dat → Option γ) :
    (Sp.types_agg n (l.map iEnc) γ fun (z27 : Int) (z28 : Bool) => bif !z28 then K 0 (Dat.ifp 79 [.int .i64 141]) else K z27 Dat.nilI) = K (ofT 4 n l).1 (err (ofT 4 n l).2) := by
  unfold Sp.types_agg Sp.B_types_agg ofT ofP
  rw [if_pos rfl]
  by_cases h1 : n = 1
  · rw [decide_eq_true h1, if_pos h1]; rfl
  · rw [decide_eq_false h1, if_neg h1, cond_false]
    obtain ⟨a, rfl⟩ : ∃ a, l = [a] := by
      rcases hf with h | ⟨_, _, h⟩ | h | h
      · exact absurd h.2.1 h1
      · exact h
      · exact absurd h.1 (by decide)
      · exact absurd h.1 (by decide)
    by_cases h2 : n = 2
    · rw [decide_eq_true h2, if_pos h2]; rfl
    · rw [decide_eq_false h2, if_neg h2, cond_false]
      by_cases h3 : n = 3
      · rw [decide_eq_true h3, if_pos h3, cond_true, all_eq _ _ (by simp)]
        cases List.all [a] (fit 2) <;> rfl
      · rw [decide_eq_false h3, if_neg h3, cond_false]
        rfl
theorem op_fin {n : Int} {l : List Int} (hf : Fits 3 n l) (hl : l.length ≤ 1000) (γ : Type) (K : Int → Dat → Option γ) :
    (Sp.types_op n (l.map iEnc) γ fun (z27 : Int) (z28 : Bool) => bif !z28 then K 0 (Dat.ifp 79 [.int .i64 141]) else K z27 Dat.nilI) = K (ofT 3 n l).1 (err (ofT 3 n l).2) := by
  unfold Sp.types_op Sp.B_types_op ofT ofP
  rw [if_neg (by decide)]
  by_cases h1 : n ≤ 3
  · rw [decide_eq_true h1, if_pos h1, cond_true, all_eq _ _ (by omega)]
    cases List.all l (fit 1) <;> rfl
  · rw [decide_eq_false h1, if_neg h1, cond_false]
    by_cases h2 : n ≤ 9
    · obtain ⟨a, b, rfl⟩ : ∃ a b, l = [a, b] := by
        rcases hf with h | h | h | h
        · exact absurd h.1 (by decide)
        · exact absurd h.1 (by decide)
        · omega
        · exact h.2
      rw [decide_eq_true h2, if_pos h2]
      show (bif decide (a = b) then _ else bif decide (a = 0) then _ else _) = _
      show _ = K (cond (eqT a b) ((1 : Int), (0 : Int)) (0, 141)).1 (err (cond (eqT a b) ((1 : Int), (0 : Int)) (0, 141)).2)
      unfold eqT
      cases decide (a = b) with
      | true => rfl
      | false =>
        cases decide (a = 0) with
        | true => rfl
        | false =>
          show (bif !decide (b = 0) then _ else _) = _
          cases decide (b = 0) <;> rfl
    · rw [decide_eq_false h2, if_neg h2, cond_false]
      by_cases h3 : n ≤ 15
      · rw [decide_eq_true h3, if_pos h3, cond_true, all_eq _ _ (by omega)]
        cases List.all l (fit 2) <;> rfl
      · rw [decide_eq_false h3, if_neg h3, cond_false]
        rfl
theorem of_fin {h : Hd} {ks : Fo} {l : List Int} (hf : Fits h.k h.n l) (hl : l.length ≤ 1000) (γ : Type) (K : Int → Int → Option γ) :
    (Sp.ref14_of h.k h.n h.vk h.vn (mk h.vs) (mk h.tab) (mk h.col) ks.enc (l.map iEnc) γ fun (z27 : Int) (z28 : Bool) => bif !z28 then K 0 141 else K z27 0) = K (ofT h.k h.n l).1 (ofT h.k h.n l).2 := by
  unfold Sp.ref14_of Sp.B_ref14_of ofT ofP
  by_cases hk : h.k = 4
  · rw [decide_eq_true hk, if_pos hk, cond_true]
    by_cases h1 : h.n = 1
    · rw [decide_eq_true h1, if_pos h1]; rfl
    · rw [decide_eq_false h1, if_neg h1, cond_false]
      obtain ⟨a, rfl⟩ : ∃ a, l = [a] := by
        rcases hf with h | ⟨_, _, h⟩ | h | h
        · exact absurd h.2.1 h1
        · exact h
        · omega
        · omega
      by_cases h2 : h.n = 2
      · rw [decide_eq_true h2, if_pos h2]; rfl
      · rw [decide_eq_false h2, if_neg h2, cond_false]
        by_cases h3 : h.n = 3
        · rw [decide_eq_true h3, if_pos h3, cond_true]
          show (Sp.ref14_fits a 2 γ fun z => bif !z then K 0 141 else K 2 0) = K (cond (fit 2 a && true) ((2 : Int), (0 : Int)) (0, 141)).1 (cond (fit 2 a && true) ((2 : Int), (0 : Int)) (0, 141)).2
          rw [fits_eq]
          cases fit 2 a <;> rfl
        · rw [decide_eq_false h3, if_neg h3, cond_false]
          rfl
  · rw [decide_eq_false hk, if_neg hk, cond_false]
    by_cases h1 : h.n ≤ 3
    · rw [decide_eq_true h1, if_pos h1, cond_true]
      refine (of_loop2 l (by omega) γ (fun z27 z28 => bif !z28 then K 0 141 else K z27 0) l.length 0 fuel (by omega) (by unfold fuel; omega)).trans ?_
      rw [List.drop_zero]
      cases List.all l (fit 1) <;> rfl
    · rw [decide_eq_false h1, if_neg h1, cond_false]
      by_cases h2 : h.n ≤ 9
      · obtain ⟨a, b, rfl⟩ : ∃ a b, l = [a, b] := by
          rcases hf with h | h | h | h
          · omega
          · omega
          · omega
          · exact h.2
        rw [decide_eq_true h2, if_pos h2]
        show (bif decide (a = b) then _ else bif decide (a = 0) then _ else _) = _
        show _ = K (cond (eqT a b) ((1 : Int), (0 : Int)) (0, 141)).1 (cond (eqT a b) ((1 : Int), (0 : Int)) (0, 141)).2
        unfold eqT
        cases decide (a = b) with
        | true => rfl
        | false =>
          cases decide (a = 0) with
          | true => rfl
          | false =>
            show (bif !decide (b = 0) then _ else _) = _
            cases decide (b = 0) <;> rfl
      · rw [decide_eq_false h2, if_neg h2, cond_false]
        by_cases h3 : h.n ≤ 15
        · rw [decide_eq_true h3, if_pos h3, cond_true]
          refine (of_loop4 l (by omega) γ (fun z27 z28 => bif !z28 then K 0 141 else K z27 0) l.length 0 fuel (by omega) (by unfold fuel; omega)).trans ?_
          rw [List.drop_zero]
          cases List.all l (fit 2) <;> rfl
        · rw [decide_eq_false h3, if_neg h3, cond_false]
          rfl
end Go.Proofs.YtppilomaljgkoaaGreatDoor
