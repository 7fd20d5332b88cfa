/- Check, Size, Depth: the program's are the reference's. -/
import Derived.Test.YtebfhpjnbmdcoaaDoorK6
set_option linter.unusedVariables false
set_option linter.unusedSimpArgs false
namespace Go.Proofs.YtebfhpjnbmdcoaaDoor
open Go Go.Aev Go.RowKit Go.Sort

/-- may an expression be? -/
def okE (h : Hd) (ks : Fo) : Bool := goodL (.cons h ks .nil) 1 false && decide (1 + ks.size ≤ 512)

theorem scanned_eq {h : Hd} {ks : Fo} (hs : Small h ks) (γ : Type) (K : Int → Int → Bool → Option γ) :
    Sp.expr_scanned h.k h.n h.vk h.vn (mk h.vs) (mk h.tab) (mk h.col) ks.enc γ K = cond (okE h ks) (K ((1 + ks.size : Nat) : Int) ((1 + ks.deep : Nat) : Int) false) (K 0 0 true) := by
  unfold Sp.expr_scanned Sp.B_expr_scanned okE
  obtain ⟨q1, q2⟩ := look_E (look_L ks) h fuel 1 0 0 false hs.big hs.all (by omega) (by omega) (by unfold fuel; omega) γ (fun (z10 z11 : Int) (z12 : Bool) => bif z12 then K 0 0 true else K z10 z11 z12)
  by_cases hg : goodL (.cons h ks .nil) 1 false = true ∧ 0 + 1 + ks.size ≤ 512
  · refine (q1 hg).trans ?_
    rw [hg.1, decide_eq_true (show 1 + ks.size ≤ 512 by omega)]
    simp only [Bool.and_self, cond_true, cond_false]
    rw [show 0 + 1 + ks.size = 1 + ks.size by omega, show max 0 (1 + ks.deep) = 1 + ks.deep by omega]
  · obtain ⟨m, d, hm⟩ := q2 hg
    refine hm.trans ?_
    rw [show (goodL (.cons h ks .nil) 1 false && decide (1 + ks.size ≤ 512)) = false by
      rw [Bool.eq_false_iff]
      intro hc
      rw [Bool.and_eq_true, decide_eq_true_eq] at hc
      exact hg ⟨hc.1, by omega⟩]
    rfl

theorem Check_eq {h : Hd} {ks : Fo} (hs : Small h ks) (γ : Type) (K : Int → Option γ) : Sp.expr_Check h.k h.n h.vk h.vn (mk h.vs) (mk h.tab) (mk h.col) ks.enc γ K = K (cond (okE h ks) 0 100) := by
  unfold Sp.expr_Check Sp.B_expr_Check
  rw [scanned_eq hs]
  cases okE h ks <;> rfl
/-! ### the reference's walk -/
end Go.Proofs.YtebfhpjnbmdcoaaDoor
