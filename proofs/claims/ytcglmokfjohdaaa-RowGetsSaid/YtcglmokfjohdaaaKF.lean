/- The plain laws of rows, VIII: RowCodes and RowGets. -/
import Derived.Test.YtcglmokfjohdaaaKE
set_option linter.unusedVariables false
set_option linter.unusedSimpArgs false
namespace Go.Proofs.Ytcglmokfjohdaaa
open Go Go.Aev Go.RowKit
set_option maxRecDepth 100000

theorem encR_len {l : List Vl} (h : okR l = true) : (encR l).length ≤ 2200 := by
  simp only [okR, Bool.and_eq_true, decide_eq_true_eq] at h
  have := flat_len h.1
  simp only [encR, List.length_cons]
  omega

theorem codes (lives : ∀ (γ : Type) (K : Bool → Option γ), Sp.law02_lives γ K = K true) (l : List Vl) (more : List UInt8) (γ : Type) (K : Bool → Option γ) :
    Sp.law02_RowCodes (l.map Vl.enc) (more.map uEnc) γ K = K true := by
  unfold Sp.law02_RowCodes Sp.B_law02_RowCodes
  rw [large_eq]
  cases hlarge : large l with
  | true => rw [cond_true, lives]
  | false =>
    have hl := (large_false hlarge).1
    rw [cond_false, List.length_map]
    by_cases hm : 1000 < more.length
    · rw [decide_eq_true (show (1000 : Int) < Int.ofNat more.length by simp only [Int.ofNat_eq_natCast]; omega), cond_true, lives]
    · rw [decide_eq_false (show ¬ (1000 : Int) < Int.ofNat more.length by simp only [Int.ofNat_eq_natCast]; omega), cond_false, row_Put_eq l (by omega)]
      cases hok : okR l with
      | false =>
        rw [cond_false, lives, Bool.not_true, cond_false, ref02_Check_eq l (by omega), hok, Bool.not_false, cond_true, decide_eq_true (rfl : (20 : Int) = 20), cond_true, show decide (Int.ofNat (List.length ([] : List (List Dat))) = 0) = true from rfl, cond_true,
          row_Check_eq l (by omega), hok, cond_false, decide_eq_true (rfl : (20 : Int) = 20), cond_true, row_Size_eq l (by omega), hok, cond_false, decide_eq_true (rfl : (0 : Int) = 0)]
      | true =>
        have hlen := encR_len hok
        rw [cond_true, lives, Bool.not_true, cond_false, ref02_Check_eq l (by omega), hok, Bool.not_true, cond_false, sized_u, List.nil_append, sized_u, sized_u, List.length_map, room2 (by omega) (by omega), room2 (by omega) (by omega)]
        simp only [Bool.and_true, cond_true]
        rw [← List.map_append, row_Get_eq (encR l ++ more) (by rw [List.length_append]; omega), decR_enc hok more]
        dsimp only
        rw [decide_eq_true (rfl : (0 : Int) = 0), cond_true, row_Check_eq l (by omega), hok, cond_true, decide_eq_true (rfl : (0 : Int) = 0), cond_true, esBytes_u]
        dsimp only
        rw [ref02_Put_eq l hok, esBytes_u]
        dsimp only
        rw [decide_eq_true rfl, cond_true, decide_eq_true (show (((encR l).length : Nat) : Int) = Int.ofNat (encR l).length from rfl), cond_true, row_Same_eq l l (by omega), decide_eq_true rfl, cond_true, row_Size_eq l (by omega), hok, cond_true, decide_eq_true rfl]
        simp only [decide_true, cond_true]

theorem gets (lives : ∀ (γ : Type) (K : Bool → Option γ), Sp.law02_lives γ K = K true) (b : List UInt8) (γ : Type) (K : Bool → Option γ) :
    Sp.law02_RowGets (b.map uEnc) γ K = K true := by
  unfold Sp.law02_RowGets Sp.B_law02_RowGets
  rw [List.length_map]
  by_cases hb : 5000 < b.length
  · rw [decide_eq_true (show (5000 : Int) < Int.ofNat b.length by simp only [Int.ofNat_eq_natCast]; omega), cond_true, lives]
  · rw [decide_eq_false (show ¬ (5000 : Int) < Int.ofNat b.length by simp only [Int.ofNat_eq_natCast]; omega), cond_false, row_Get_eq b (by omega)]
    cases hd : decR b with
    | none =>
      dsimp only
      rw [ref02_Get_eq b (by omega), hd]
      dsimp only
      rw [lives, Bool.not_true, cond_false, decide_eq_true (rfl : (0 : Int) = 0), Bool.not_true, cond_false]
      refine (ref02_Same_eq [] [] (by simp) γ _).trans ?_
      rfl
    | some x =>
      obtain ⟨l, q⟩ := x
      obtain ⟨h1, h2, h3⟩ := enc_decR hd
      have h32 : l.length ≤ 32 := by
        simp only [okR, Bool.and_eq_true, decide_eq_true_eq] at h1
        exact h1.2
      dsimp only
      rw [ref02_Get_eq b (by omega), hd]
      dsimp only
      rw [lives, Bool.not_true, cond_false, decide_eq_true (rfl : (q : Int) = (q : Int)), Bool.not_true, cond_false, ref02_Same_eq l l (by omega), decide_eq_true (rfl : l = l), Bool.not_true, cond_false,
        decide_eq_true (rfl : (0 : Int) = 0), show (!(true == true)) = false from rfl, cond_false, cond_false, cond_false, row_Put_eq l (by omega), h1, cond_true]
      rw [decide_eq_true (rfl : (0 : Int) = 0), cond_true, esBytes_u]
      dsimp only
      rw [decide_eq_true (show (0 : Int) ≤ (q : Int) by omega), decide_eq_true (show (q : Int) ≤ Int.ofNat b.length by simp only [Int.ofNat_eq_natCast]; omega), List.drop_zero, Int.toNat_natCast, ← List.map_take, esBytes_u, h2]
      simp only [Bool.and_true, cond_true, decide_true]
end Go.Proofs.Ytcglmokfjohdaaa
