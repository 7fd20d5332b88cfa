/- The tables that the rows list; the types of the arguments. -/
import Derived.Test.YtffhgjoemimmnaaDoorK2
import Derived.Test.YtffhgjoemimmnaaDoorAevC
import Derived.Test.YtffhgjoemimmnaaDoorRows
import Derived.KernelRfl
set_option linter.unusedVariables false
set_option linter.unusedSimpArgs false
namespace Go.Proofs.YtffhgjoemimmnaaDoor
open Go.Aev Go.RowKit

theorem gSigns : Tryd.prog.globalNamed "commissary/lex.signs" = some 0 := by kernel_rfl
theorem tSigns : (Tryd.prog.globals[0]?).map (·.type) = some 61 := by kernel_rfl

theorem globs {W : World} (h : laidMet Tryd.prog Rows.lexShowsRow.laid W) (hsh : W.ShapedOpen Tryd.prog) : ∃ p, GlobOk (cfg p) W (sizes W) := by
  obtain ⟨m, hm⟩ : ∃ m, W.cell? ⟨1, 0, none⟩ = some (.int .i64 m) :=
    Go.Proofs.cell_of_shapedOpen_int (zero := #[.int .i64 0]) (t := 3) hsh (of_decide_eq_true (by kernel_rfl)) (by kernel_rfl) rfl (by kernel_rfl) (by kernel_rfl) Tryd.underlying3
  obtain ⟨ps, hL, -⟩ := h
  obtain ⟨_, _, _, _, _, _, _, _, _, _, hL, _⟩ := hL
  obtain ⟨g0, t0, cs0, f0, p0, _, hg0, ht0, hv0, hd0, hL, _⟩ := hL
  obtain rfl := Option.some.inj (gSigns.symm.trans hg0)
  obtain rfl := Option.some.inj (tSigns.symm.trans ht0)
  have r0 := imm_of_var (n := 5) gSigns hv0 hd0 (ds := [.str (bs [60, 61]), .str (bs [62, 61]), .str (bs [60, 62]), .str (bs [40]), .str (bs [41]), .str (bs [44]), .str (bs [46]), .str (bs [42]), .str (bs [43]), .str (bs [45]), .str (bs [47]), .str (bs [37]), .str (bs [61]), .str (bs [60]), .str (bs [62])]) (by kernel_rfl)
  have r3 : RepB W (sizes W) [] (.imm [.int .i64 m]) (.pointer (some ⟨1, 0, none⟩)) := by
    refine .imm (fun _ => .int .i64 m) rfl (fun k hk => ?_) fun k d hd => ?_
    · have : k = 0 := by simp at hk; omega
      subst this
      exact ⟨hm, below_sizes hm⟩
    · cases k with
      | zero =>
        simp only [List.getElem?_cons_zero, Option.some.injEq] at hd
        subst hd
        exact .int _ _
      | succ k => simp at hd
  refine ⟨⟨m⟩, fun i cells hc => ?_, fun i o hc => by cases hc⟩
  have hc : globT m i = some cells := hc
  unfold globT at hc
  split at hc
  · cases hc; exact r0
  · cases hc; exact r3
  · cases hc

def simples : List TypeId := [3, 4, 9]
theorem simples_ok : simpleSet Tryd.prog simples = true := by kernel_rfl
theorem kids : Kids Tryd.prog (· < Tryd.prog.types.size) := kids_rows (by kernel_rfl) (by kernel_rfl)
theorem fulls : ∀ t e, t < Tryd.prog.types.size → Tryd.prog.underlying t = some (.slice e) → 0 < Tryd.prog.cellsOf e := slices_full_of _ (by kernel_rfl)

theorem has_int {n : Nat} {ds : List Dat} (h : hasT Tryd.prog n 3 ds) : ∃ x, ds = [.int .i64 x] ∧ -9223372036854775808 ≤ x ∧ x ≤ 9223372036854775807 := by
  cases n with
  | zero => exact h.elim
  | succ n =>
    unfold hasT at h
    rw [Tryd.underlying3] at h
    obtain ⟨x, rfl, hw⟩ := h
    exact ⟨x, rfl, bounds_i64 hw⟩
theorem has_bool {n : Nat} {ds : List Dat} (h : hasT Tryd.prog n 4 ds) : ∃ b, ds = [.bool b] := by
  cases n with
  | zero => exact h.elim
  | succ n =>
    unfold hasT at h
    rw [Tryd.underlying4] at h
    exact h
theorem has_string {n : Nat} {ds : List Dat} (h : hasT Tryd.prog n 9 ds) : ∃ s, ds = [.str s] ∧ s.size ≤ maxLen := by
  cases n with
  | zero => exact h.elim
  | succ n =>
    unfold hasT at h
    rw [Tryd.underlying9] at h
    exact h
/-- the cells that a table's data says -/
def flatV : Nat → DataW Unit → List Value
  | _, .lit (.int k n) => [.int k n]
  | _, .lit (.string l) => [.string ⟨l.toArray⟩]
  | n + 1, .agg l => l.flatMap (flatV n)
  | _, _ => []

noncomputable def laidHeap (h : Array Obj) : List (String × DataW Unit) → Array Obj
  | [] => h
  | (n, d) :: r => laidHeap (h.modify ((Tryd.prog.globalNamed n).getD 0) fun
      | .cells _ t frozen => .cells (flatV 5 d).toArray t frozen
      | o => o) r
noncomputable def laidWorld (os : Os) : World :=
  { World.holding Tryd.prog os ⟨#[], #[], []⟩ with heap := laidHeap (World.holding Tryd.prog os ⟨#[], #[], []⟩).heap Rows.lexShowsRow.laid }
end Go.Proofs.YtffhgjoemimmnaaDoor
