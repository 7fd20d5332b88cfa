/- The sort's comparison in plain Lean; the sort; how the evaluator is set. -/
import Derived.Test.YtimdilbcijgadaaGreatDoorKZ
import Derived.Test.YtimdilbcijgadaaGreatDoorAevE
import Derived.Sort.Walk0
set_option linter.unusedVariables false
set_option linter.unusedSimpArgs false
namespace Go.Proofs.YtimdilbcijgadaaGreatDoor
open Go Go.Aev Go.RowKit Go.Sort

namespace Z
theorem cmp_Compare_int_eq (a b : Int) (γ : Type) (K : Int → Option γ) : Sp.cmp_Compare_int a b γ K = K (V.ci a b) := by
  unfold Sp.cmp_Compare_int Sp.B_cmp_Compare_int Sp.cmp_isNaN_int Sp.B_cmp_isNaN_int V.ci
  by_cases h1 : a < b <;> by_cases h2 : b < a <;> simp [h1, h2]
theorem cmp_Compare_string_eq (a b : ByteArray) (γ : Type) (K : Int → Option γ) : Sp.cmp_Compare_string a b γ K = K (V.cs a b) := by
  unfold Sp.cmp_Compare_string Sp.B_cmp_Compare_string Sp.cmp_isNaN_string Sp.B_cmp_isNaN_string V.cs
  rw [show Op.bytesLess a.data.toList b.data.toList = decide (a.data.toList < b.data.toList) from bytesLess_eq _ _]
  by_cases h2 : a = b
  · subst h2
    simp [List.lt_irrefl]
  · by_cases h1 : a.data.toList < b.data.toList <;> simp [h1, h2]
theorem cmp_Or_three (a b c : Int) (γ : Type) (K : Int → Option γ) : Sp.cmp_Or_int [[.int .i64 a], [.int .i64 b], [.int .i64 c]] γ K = K (if a = 0 then (if b = 0 then c else b) else a) := by
  have h : Sp.cmp_Or_int [[.int .i64 a], [.int .i64 b], [.int .i64 c]] γ K = cond (!decide (a = 0)) (K a) (cond (!decide (b = 0)) (K b) (cond (!decide (c = 0)) (K c) (K 0))) := by kernel_rfl
  rw [h]
  by_cases h1 : a = 0 <;> by_cases h2 : b = 0 <;> by_cases h3 : c = 0 <;> simp [h1, h2, h3]
theorem value_Compare_eq (k n : Int) (s : ByteArray) (k' n' : Int) (s' : ByteArray) (γ : Type) (K : Int → Option γ) : Sp.value_Compare k n s k' n' s' γ K = K (V.cmp k n s k' n' s') := by
  unfold Sp.value_Compare Sp.B_value_Compare V.cmp
  rw [cmp_Compare_int_eq, cmp_Compare_int_eq, cmp_Compare_string_eq, cmp_Or_three]

theorem compare_loop (l m : List Vl) (hl : l.length ≤ 16777216) (γ : Type) (K : Int → Option γ) : ∀ (d i n : Nat), l.length = i + d → d < n → i ≤ m.length →
    Sp.slices_CompareFunc_api_Value_api_Value_api_Value_api_Value_L0 n (l.map Vl.enc) (m.map Vl.enc) (l.map Vl.enc) (l.length : Int) 0 (i : Int) γ
      (fun z3 z4 z5 => bif Ex.isExit z3 0 then bif decide (Int.ofNat l.length < Int.ofNat m.length) then K (-1) else K 0 else bif Ex.isRet z3 then K z4 else none) = K (R.cmp (l.drop i) (m.drop i)) := by
  intro d
  induction d with
  | zero =>
    intro i n hi hn him
    obtain ⟨n, rfl⟩ : ∃ k, n = k + 1 := ⟨n - 1, by omega⟩
    unfold Sp.slices_CompareFunc_api_Value_api_Value_api_Value_api_Value_L0 Sp.B_slices_CompareFunc_api_Value_api_Value_api_Value_api_Value_L0
    rw [decide_eq_false (show ¬ (i : Int) < (l.length : Int) by omega), cond_false, List.drop_eq_nil_of_le (show l.length ≤ i by omega)]
    simp only [Ex.isExit, beq_self_eq_true, cond_true]
    by_cases h : l.length < m.length
    · rw [decide_eq_true (show Int.ofNat l.length < Int.ofNat m.length by simp only [Int.ofNat_eq_natCast]; omega), cond_true]
      obtain ⟨c, _, hd⟩ := dropv_cons (show i < m.length by omega)
      rw [hd]; rfl
    · rw [decide_eq_false (show ¬ Int.ofNat l.length < Int.ofNat m.length by simp only [Int.ofNat_eq_natCast]; omega), cond_false, List.drop_eq_nil_of_le (show m.length ≤ i by omega)]
      rfl
  | succ d ih =>
    intro i n hi hn him
    obtain ⟨n, rfl⟩ : ∃ k, n = k + 1 := ⟨n - 1, by omega⟩
    obtain ⟨a, ha, hda⟩ := dropv_cons (show i < l.length by omega)
    show Sp.B_slices_CompareFunc_api_Value_api_Value_api_Value_api_Value_L0 (Sp.slices_CompareFunc_api_Value_api_Value_api_Value_api_Value_L0 n) _ _ _ _ _ _ _ _ _ = _
    unfold Sp.B_slices_CompareFunc_api_Value_api_Value_api_Value_api_Value_L0
    rw [decide_eq_true (show (i : Int) < (l.length : Int) by omega), cond_true, elemAt_enc ha, vl_cells, List.length_map]
    rw [hda]
    by_cases h : i < m.length
    · obtain ⟨b, hb, hdb⟩ := dropv_cons h
      rw [decide_eq_false (show ¬ Int.ofNat m.length ≤ (i : Int) by simp only [Int.ofNat_eq_natCast]; omega), cond_false, elemAt_enc hb, vl_cells, value_Compare_eq, hdb]
      have hnext : IntKind.wrap .i64 ((i : Int) + 1) = ((i + 1 : Nat) : Int) := by rw [wrap_i64 (by omega)]; omega
      rw [hnext]
      show (bif !decide (Vl.cmp a b = 0) then _ else _) = K (if Vl.cmp a b = 0 then _ else _)
      by_cases hc : Vl.cmp a b = 0
      · rw [decide_eq_true hc, if_pos hc, Bool.not_true, cond_false]
        exact ih (i + 1) n (by omega) (by omega) (by omega)
      · rw [decide_eq_false hc, if_neg hc, Bool.not_false, cond_true]
        rfl
    · rw [decide_eq_true (show Int.ofNat m.length ≤ (i : Int) by simp only [Int.ofNat_eq_natCast]; omega), cond_true, List.drop_eq_nil_of_le (show m.length ≤ i by omega)]
      rfl

theorem row_Compare_eq (l m : List Vl) (hl : l.length ≤ 16777216) (γ : Type) (K : Int → Option γ) : Sp.row_Compare (l.map Vl.enc) (m.map Vl.enc) γ K = K (R.cmp l m) := by
  unfold Sp.row_Compare Sp.B_row_Compare Sp.slices_CompareFunc_api_Value_api_Value_api_Value_api_Value Sp.B_slices_CompareFunc_api_Value_api_Value_api_Value_api_Value
  rw [List.length_map, List.length_map]
  exact compare_loop l m hl γ K l.length 0 fuel (by omega) (by unfold fuel; omega) (Nat.zero_le _)

theorem call_Compare (p : Par) {x y : Dat} (hx : R.OkD x) (hy : R.OkD y) : callL (cfgZ p) 98 [.dat x, .dat y] [] = some ([(.dat (.int .i64 (R.cmpD x y)), .none)], []) := by
  obtain ⟨a, ha, rfl⟩ := hx
  obtain ⟨b, hb, rfl⟩ := hy
  have h0 : P_row_Compare Sp.row_Compare none3 [.dat (R.enc a), .dat (R.enc b)] [] (List Ent × Sig) some = Sp.row_Compare (a.map Vl.enc) (b.map Vl.enc) (List Ent × Sig) (fun r0 => some ([(.dat (.int .i64 r0), .none)], [])) := rfl
  obtain ⟨r, h1, h2⟩ := E_row_Compare p (ent_none _ _) _ _ _ _ _ (h0.trans (row_Compare_eq a b ha _ _))
  cases h2
  rw [R.cmpD_enc]
  exact h1
end Z
end Go.Proofs.YtimdilbcijgadaaGreatDoor
