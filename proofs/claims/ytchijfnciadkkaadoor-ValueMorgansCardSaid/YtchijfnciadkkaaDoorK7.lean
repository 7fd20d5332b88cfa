/- The tables that the rows list. -/
import Derived.Test.YtchijfnciadkkaaDoorK6
import Derived.Test.YtchijfnciadkkaaDoorAevC
import Derived.Test.YtchijfnciadkkaaDoorRows
set_option linter.unusedVariables false
set_option linter.unusedSimpArgs false
namespace Go.Proofs.YtchijfnciadkkaaDoor
open Go.Aev Go.RowKit

theorem gAnds : Tryd.prog.globalNamed "commissary/value.ands" = some 1 := by kernel_rfl
theorem gNots : Tryd.prog.globalNamed "commissary/value.nots" = some 0 := by kernel_rfl
theorem tAnds : (Tryd.prog.globals[1]?).map (·.type) = some 48 := by kernel_rfl
theorem tNots : (Tryd.prog.globals[0]?).map (·.type) = some 47 := by kernel_rfl

theorem globs {W : World} (h : laidMet Tryd.prog Rows.valueMorgansRow.laid W) (hsh : W.ShapedOpen Tryd.prog) : ∃ m, GlobOk (cfg m) W (sizes W) := by
  obtain ⟨m, hm⟩ : ∃ m, W.cell? ⟨3, 0, none⟩ = some (.int .i64 m) :=
    Go.Proofs.cell_of_shapedOpen_int (zero := #[.int .i64 0]) (t := 3) hsh (of_decide_eq_true (by kernel_rfl)) (by kernel_rfl) rfl (by kernel_rfl) (by kernel_rfl) Tryd.underlying3
  obtain ⟨ps, hL, -⟩ := h
  obtain ⟨_, _, _, _, _, _, _, _, _, _, hL, _⟩ := hL
  obtain ⟨_, _, _, _, _, _, _, _, _, _, hL, _⟩ := hL
  obtain ⟨_, _, _, _, _, _, _, _, _, _, hL, _⟩ := hL
  obtain ⟨_, _, _, _, _, _, _, _, _, _, hL, _⟩ := hL
  obtain ⟨g1, t1, cs1, f1, p1, _, hg1, ht1, hv1, hd1, hL, _⟩ := hL
  obtain ⟨g0, t0, cs0, f0, p0, _, hg0, ht0, hv0, hd0, hL, _⟩ := hL
  obtain rfl := Option.some.inj (gAnds.symm.trans hg1)
  obtain rfl := Option.some.inj (tAnds.symm.trans ht1)
  obtain rfl := Option.some.inj (gNots.symm.trans hg0)
  obtain rfl := Option.some.inj (tNots.symm.trans ht0)
  have r1 := imm_of_var (n := 5) gAnds hv1 hd1 (ds := [.int .i64 0, .int .i64 0, .int .i64 0, .int .i64 0, .int .i64 1, .int .i64 2, .int .i64 0, .int .i64 2, .int .i64 2]) (by kernel_rfl)
  have r0 := imm_of_var (n := 5) gNots hv0 hd0 (ds := [.int .i64 1, .int .i64 0, .int .i64 2]) (by kernel_rfl)
  have r3 : RepB W (sizes W) [] (.imm [.int .i64 m]) (.pointer (some ⟨3, 0, none⟩)) := by
    refine .imm (fun _ => .int .i64 m) rfl (fun k hk => ?_) fun k d hd => ?_
    · have : k = 0 := by simp at hk; omega
      subst this
      exact ⟨hm, below_sizes hm⟩
    · cases k with
      | zero =>
        simp only [List.getElem?_cons_zero, Option.some.injEq] at hd
        subst hd
        exact .int _ _
      | succ k => simp at hd
  refine ⟨m, fun i cells hc => ?_⟩
  have hc : globT m i = some cells := hc
  unfold globT at hc
  split at hc
  · cases hc; exact r0
  · cases hc; exact r1
  · cases hc; exact r3
  · cases hc
end Go.Proofs.YtchijfnciadkkaaDoor
