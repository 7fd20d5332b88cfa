/- Check, as the first printing has it, is Check. -/
import Derived.Test.YtppilomaljgkoaaGreatDoorK7
set_option linter.unusedVariables false
set_option linter.unusedSimpArgs false
namespace Go.Proofs.YtppilomaljgkoaaGreatDoor
open Go Go.Aev Go.RowKit Go.Sort
theorem Zq_letter : Z.Sp.lex_letter = Sp.lex_letter := rfl
theorem Zq_digit : Z.Sp.lex_digit = Sp.lex_digit := rfl
theorem Zq_left : Z.Sp.lex_scanner_left = Sp.lex_scanner_left := rfl
theorem Zq_run_L0 : ∀ n, Z.Sp.lex_scanner_run_L0 n = Sp.lex_scanner_run_L0 n
  | 0 => rfl
  | n + 1 => by rw [Z.Sp.lex_scanner_run_L0, Sp.lex_scanner_run_L0, Zq_run_L0 n, Zq_left, Zq_letter, Zq_digit]; rfl
theorem Zq_run : Z.Sp.lex_scanner_run = Sp.lex_scanner_run := by unfold Z.Sp.lex_scanner_run Sp.lex_scanner_run; rw [Zq_run_L0]; rfl
theorem Zq_Keys : Z.Sp.lex_Keys = Sp.lex_Keys := by unfold Z.Sp.lex_Keys Sp.lex_Keys Z.Sp.B_lex_Keys Sp.B_lex_Keys; rfl
theorem Zq_Index_L0 : ∀ n, Z.Sp.slices_Index_string_string_L0 n = Sp.slices_Index_string_string_L0 n
  | 0 => rfl
  | n + 1 => by rw [Z.Sp.slices_Index_string_string_L0, Sp.slices_Index_string_string_L0, Zq_Index_L0 n]; rfl
theorem Zq_Index : Z.Sp.slices_Index_string_string = Sp.slices_Index_string_string := by unfold Z.Sp.slices_Index_string_string Sp.slices_Index_string_string; rw [Zq_Index_L0]; rfl
theorem Zq_Contains : Z.Sp.slices_Contains_string_string = Sp.slices_Contains_string_string := by unfold Z.Sp.slices_Contains_string_string Sp.slices_Contains_string_string; rw [Zq_Index]; rfl
theorem Zq_Key : Z.Sp.lex_Key = Sp.lex_Key := by unfold Z.Sp.lex_Key Sp.lex_Key; rw [Zq_Keys, Zq_Contains]; rfl
theorem Zq_Name : Z.Sp.lex_Name = Sp.lex_Name := by unfold Z.Sp.lex_Name Sp.lex_Name; rw [Zq_letter, Zq_run, Zq_Key]; rfl
theorem Zq_vCheck : Z.Sp.value_Check = Sp.value_Check := rfl
theorem Zq_literal : Z.Sp.expr_literal = Sp.expr_literal := by unfold Z.Sp.expr_literal Sp.expr_literal; rw [Zq_vCheck]; rfl
theorem Zq_column : Z.Sp.expr_column = Sp.expr_column := by unfold Z.Sp.expr_column Sp.expr_column; rw [Zq_Name]; rfl
theorem Zq_bare : Z.Sp.expr_bare = Sp.expr_bare := rfl
theorem Zq_Arity : Z.Sp.expr_Arity = Sp.expr_Arity := rfl
theorem Zq_agg : Z.Sp.expr_agg = Sp.expr_agg := by unfold Z.Sp.expr_agg Sp.expr_agg; rw [Zq_bare]; rfl
theorem Zq_may : Z.Sp.expr_may = Sp.expr_may := by unfold Z.Sp.expr_may Sp.expr_may; rw [Zq_literal, Zq_column, Zq_bare, Zq_Arity, Zq_agg]; rfl
theorem Zq_look_L0 (R : Z.Ty_expr_scan_look) : ∀ n, Z.Sp.expr_scan_look_L0 R n = Sp.expr_scan_look_L0 R n
  | 0 => rfl
  | n + 1 => by rw [Z.Sp.expr_scan_look_L0, Sp.expr_scan_look_L0, Zq_look_L0 R n]; rfl
theorem Zq_look : ∀ n, Z.Sp.expr_scan_look n = Sp.expr_scan_look n
  | 0 => rfl
  | n + 1 => by rw [Z.Sp.expr_scan_look, Sp.expr_scan_look, Zq_look n, Zq_look_L0, Zq_may]; rfl
theorem Zq_scanned : Z.Sp.expr_scanned = Sp.expr_scanned := by unfold Z.Sp.expr_scanned Sp.expr_scanned; rw [Zq_look]; rfl
theorem Zq_Check : Z.Sp.expr_Check = Sp.expr_Check := by unfold Z.Sp.expr_Check Sp.expr_Check; rw [Zq_scanned]; rfl
end Go.Proofs.YtppilomaljgkoaaGreatDoor
