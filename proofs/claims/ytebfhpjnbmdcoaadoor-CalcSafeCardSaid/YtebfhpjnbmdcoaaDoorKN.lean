/- Names: the program's are the reference's. -/
import Derived.Test.YtebfhpjnbmdcoaaDoorKT
set_option linter.unusedVariables false
set_option linter.unusedSimpArgs false
namespace Go.Proofs.YtebfhpjnbmdcoaaDoor
open Go Go.Aev Go.RowKit Go.Sort

def nameOk (s : List UInt8) : Bool := match s with
  | [] => false
  | c :: _ => letter c && (s.all isW && (decide (s.length ≤ 24) && !decide (s ∈ keyWords)))

theorem runN_all : ∀ l : List UInt8, (l.take (runN l) = l) ↔ l.all isW = true
  | [] => by simp [runN]
  | c :: l => by
    have ih := runN_all l
    unfold runN at ih ⊢
    rw [List.takeWhile_cons]
    cases hc : isW c with
    | true => simp [hc]; simpa using ih
    | false => simp [hc]

theorem lex_Name_eq (s : List UInt8) (hs : s.length ≤ 16777216) (γ : Type) (K : Bool → Option γ) : Sp.lex_Name (mk s) γ K = K (nameOk s) := by
  unfold Sp.lex_Name Sp.B_lex_Name nameOk
  cases s with
  | nil => rfl
  | cons c r =>
    rw [decide_eq_false (show ¬ mk (c :: r) = bs [] by rw [bs_mk, mk_inj]; simp), cond_false]
    have hb : byteAt (mk (c :: r)) 0 (fun z3 => Sp.lex_letter (Int.ofNat (BitVec.toFin (UInt8.toBitVec z3)).1) γ fun z4 => bif !z4 then K false else Sp.lex_scanner_run (mk (c :: r)) 0 γ fun z5 z6 z7 => bif decide (z5 = mk (c :: r)) then bif decide (Int.ofNat (ByteArray.size (mk (c :: r))) ≤ 24) then Sp.lex_Key (mk (c :: r)) γ fun z8 => K !z8 else K false else K false) = _ :=
      byteAt_some (l := c :: r) (i := 0) rfl _
    refine hb.trans ?_
    rw [letter_eq]
    show (bif !letter c then K false else _) = K (letter c && _)
    cases letter c with
    | false => rfl
    | true =>
      simp only [Bool.not_true, cond_false, Bool.true_and]
      have hr := run_eq (c :: r) 0 (by simp) hs γ (fun z5 z6 z7 => bif decide (z5 = mk (c :: r)) then bif decide (Int.ofNat (ByteArray.size (mk (c :: r))) ≤ 24) then Sp.lex_Key (mk (c :: r)) γ fun z8 => K !z8 else K false else K false)
      refine hr.trans ?_
      rw [List.drop_zero]
      by_cases hall : (c :: r).all isW = true
      · rw [decide_eq_true (show mk ((c :: r).take (runN (c :: r))) = mk (c :: r) by rw [(runN_all _).2 hall]), cond_true, hall, Bool.true_and, size_mk]
        by_cases h24 : (c :: r).length ≤ 24
        · rw [decide_eq_true (show Int.ofNat (c :: r).length ≤ 24 by simp only [Int.ofNat_eq_natCast]; omega), cond_true, key_eq, decide_eq_true h24, Bool.true_and]
        · rw [decide_eq_false (show ¬ Int.ofNat (c :: r).length ≤ 24 by simp only [Int.ofNat_eq_natCast]; omega), cond_false, decide_eq_false h24, Bool.false_and]
      · rw [decide_eq_false (show ¬ mk ((c :: r).take (runN (c :: r))) = mk (c :: r) by rw [mk_inj, runN_all]; exact hall), cond_false, Bool.eq_false_iff.2 hall, Bool.false_and]

end Go.Proofs.YtebfhpjnbmdcoaaDoor
