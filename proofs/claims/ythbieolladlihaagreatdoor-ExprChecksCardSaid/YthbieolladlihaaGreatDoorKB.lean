/- ExprChecks: its plain law. -/
import Derived.Test.YthbieolladlihaaGreatDoorKA
import Derived.Test.YthbieolladlihaaGreatDoorKL
set_option linter.unusedVariables false
set_option linter.unusedSimpArgs false
namespace Go.Proofs.YthbieolladlihaaGreatDoor
open Go Go.Aev Go.RowKit Go.Sort

theorem checks (h : Hd) (ks : Fo) (γ : Type) (K : Bool → Option γ) : Sp.law10_ExprChecks h.k h.n h.vk h.vn (mk h.vs) (mk h.tab) (mk h.col) ks.enc γ K = K true := by
  unfold Sp.law10_ExprChecks Sp.B_law10_ExprChecks
  rw [Large_eq, lives_eq]
  cases hl : large h ks with
  | true => rfl
  | false =>
    have hs := small_of hl
    rw [cond_false, lives_eq, Bool.not_true, cond_false, ref_Check_eq hs]
    cases hok : okE h ks with
    | false =>
      rw [Bool.not_false, cond_true, Check_eq hs, hok]
      show (bif decide ((100 : Int) = 100) then _ else _) = _
      rw [decide_eq_true (show (100 : Int) = 100 from rfl), cond_true, Size_eq hs, hok]
      show (bif decide ((0 : Int) = 0) then _ else _) = _
      rw [decide_eq_true (show (0 : Int) = 0 from rfl), cond_true, Depth_eq hs, hok]
      show (bif decide ((0 : Int) = 0) then _ else _) = _
      rw [decide_eq_true (show (0 : Int) = 0 from rfl), cond_true, Show_eq hs, hok]
      rfl
    | true =>
      rw [Bool.not_true, cond_false, Check_eq hs, hok]
      show (bif decide ((0 : Int) = 0) then _ else _) = _
      rw [decide_eq_true (show (0 : Int) = 0 from rfl), cond_true, Size_eq hs, hok, ref_Size_eq hs, hok]
      show (bif decide (((1 + ks.size : Nat) : Int) = ((1 + ks.size : Nat) : Int)) then _ else _) = _
      rw [decide_eq_true rfl, cond_true, Depth_eq hs, hok, ref_Depth_eq hs]
      show (bif decide (((1 + ks.deep : Nat) : Int) = ((1 + ks.deep : Nat) : Int)) then _ else _) = _
      rw [decide_eq_true rfl, cond_true, Show_eq hs, hok, ref_Show_eq hs hok]
      show K (decide (mk (textE h ks) = mk (textE h ks))) = _
      rw [decide_eq_true rfl]

end Go.Proofs.YthbieolladlihaaGreatDoor
