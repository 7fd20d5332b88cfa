/- The variables that the rows list; the types of the arguments. -/
import Derived.Test.YtimdilbcijgadaaGreatDoorPH
import Derived.FnData
import Derived.Test.YtimdilbcijgadaaGreatDoorAevD
import Derived.Test.YtimdilbcijgadaaGreatDoorRows
import Derived.KernelRfl
set_option linter.unusedVariables false
set_option linter.unusedSimpArgs false
set_option maxRecDepth 100000
namespace Go.Proofs.YtimdilbcijgadaaGreatDoor
open Go.Aev Go.RowKit

/-- the lists of laid variables of this seat's rows are one -/
def laidL : List (String × DataW Unit) := Rows.catalogChecksRow.laid
theorem globs {L : List (String × DataW Unit)} {W : World} (h : laidMetH Tryz.prog L W) (hsh : W.ShapedOpen Tryz.prog) : ∃ p, GlobOk (cfg p) W (sizes W) := by
  obtain ⟨m, hm⟩ : ∃ m, W.cell? ⟨0, 0, none⟩ = some (.int .i64 m) :=
    Go.Proofs.cell_of_shapedOpen_int (zero := #[.int .i64 0]) (t := 3) hsh (of_decide_eq_true (by kernel_rfl)) (by kernel_rfl) rfl (by kernel_rfl) (by kernel_rfl) Tryz.underlying3
  have r1 : RepB W (sizes W) [] (.imm [.int .i64 m]) (.pointer (some ⟨0, 0, none⟩)) := by
    refine .imm (fun _ => .int .i64 m) rfl (fun k hk => ?_) fun k d hd => ?_
    · have : k = 0 := by simp at hk; omega
      subst this
      exact ⟨hm, below_sizes hm⟩
    · cases k with
      | zero =>
        simp only [List.getElem?_cons_zero, Option.some.injEq] at hd
        subst hd
        exact .int _ _
      | succ k => simp at hd
  refine ⟨⟨m⟩, fun i cells hc => ?_, fun i o' hc => (by cases hc)⟩
  have hc : globT m i = some cells := hc
  unfold globT at hc
  split at hc
  · cases hc; exact r1
  · cases hc

def simples : List TypeId := [3, 9, 22, 26, 27, 29, 38, 57, 76]
theorem simples_ok : simpleSet Tryz.prog simples = true := by kernel_rfl
theorem kids : Kids Tryz.prog (· < Tryz.prog.types.size) := kids_rows (by kernel_rfl) (by kernel_rfl)
theorem fulls : ∀ t e, t < Tryz.prog.types.size → Tryz.prog.underlying t = some (.slice e) → 0 < Tryz.prog.cellsOf e := slices_full_of _ (by kernel_rfl)

theorem all_map {α : Type} {f : α → List Dat} {Q : α → Prop} : ∀ {es : List (List Dat)}, (∀ c ∈ es, ∃ v, c = f v ∧ Q v) → ∃ l : List α, es = l.map f ∧ ∀ v ∈ l, Q v
  | [], _ => ⟨[], rfl, fun v hv => by cases hv⟩
  | e :: es, h => by
    obtain ⟨v, rfl, hq⟩ := h e (by simp)
    obtain ⟨l, hl, hl2⟩ := all_map (es := es) fun c hc => h c (List.mem_cons_of_mem _ hc)
    refine ⟨v :: l, by rw [hl]; rfl, fun x hx => ?_⟩
    rcases List.mem_cons.1 hx with rfl | hx
    · exact hq
    · exact hl2 x hx
theorem has_int {n : Nat} {ds : List Dat} (h : hasT Tryz.prog n 3 ds) : ∃ x, ds = [.int .i64 x] := by
  cases n with
  | zero => exact h.elim
  | succ n =>
    unfold hasT at h
    rw [Tryz.underlying3] at h
    obtain ⟨x, rfl, _⟩ := h
    exact ⟨x, rfl⟩
theorem has_string {n : Nat} {ds : List Dat} (h : hasT Tryz.prog n 9 ds) : ∃ s, ds = [.str s] ∧ s.size ≤ maxLen := by
  cases n with
  | zero => exact h.elim
  | succ n =>
    unfold hasT at h
    rw [Tryz.underlying9] at h
    exact h
theorem has_str {n : Nat} {ds : List Dat} (h : hasT Tryz.prog n 9 ds) : ∃ s : List UInt8, ds = [.str (mk s)] ∧ s.length ≤ 9223372036854775807 := by
  obtain ⟨s, rfl, hs⟩ := has_string h
  refine ⟨s.data.toList, by rw [mk_data], ?_⟩
  have := size_mk s.data.toList
  rw [mk_data] at this
  rw [← this]
  unfold maxLen at hs
  omega
theorem has_value {n : Nat} {ds : List Dat} (h : hasT Tryz.prog n 76 ds) : ∃ v : Vl, ds = v.enc := by
  cases n with
  | zero => exact h.elim
  | succ n =>
    unfold hasT at h
    rw [Tryz.underlying76] at h
    obtain ⟨a, b, rfl, h1, c, d, rfl, h2, e, f, rfl, h3, rfl⟩ := h
    obtain ⟨x, rfl⟩ := has_int h1
    obtain ⟨y, rfl⟩ := has_int h2
    obtain ⟨s, rfl, _⟩ := has_string h3
    exact ⟨⟨x, y, s⟩, rfl⟩
theorem has_row {n : Nat} {ds : List Dat} (h : hasT Tryz.prog n 38 ds) : ∃ l : List Vl, ds = [.sl (l.map Vl.enc)] := by
  cases n with
  | zero => exact h.elim
  | succ n =>
    unfold hasT at h
    rw [Tryz.underlying38] at h
    obtain ⟨es, rfl, _, h⟩ := h
    obtain ⟨l, rfl, _⟩ := all_map (f := Vl.enc) (Q := fun _ => True) fun c hc => by
      obtain ⟨v, rfl⟩ := has_value (h c hc)
      exact ⟨v, rfl, trivial⟩
    exact ⟨l, rfl⟩
theorem has_rows {n : Nat} {ds : List Dat} (h : hasT Tryz.prog n 27 ds) : ∃ l : List (List Vl), ds = [.sl (l.map lEnc)] := by
  cases n with
  | zero => exact h.elim
  | succ n =>
    unfold hasT at h
    rw [Tryz.underlying27] at h
    obtain ⟨es, rfl, _, h⟩ := h
    obtain ⟨l, rfl, _⟩ := all_map (f := lEnc) (Q := fun _ => True) fun c hc => by
      obtain ⟨v, rfl⟩ := has_row (h c hc)
      exact ⟨v, rfl, trivial⟩
    exact ⟨l, rfl⟩
theorem has_col {n : Nat} {ds : List Dat} (h : hasT Tryz.prog n 57 ds) : ∃ c : Co, ds = encC c ∧ c.name.length ≤ 9223372036854775807 := by
  cases n with
  | zero => exact h.elim
  | succ n =>
    unfold hasT at h
    rw [Tryz.underlying57] at h
    obtain ⟨a, b, rfl, h1, c, d, rfl, h2, e, f, rfl, h3, rfl⟩ := h
    obtain ⟨x, rfl, _⟩ := has_str h1
    obtain ⟨y, rfl, hy⟩ := has_str h2
    obtain ⟨z, rfl⟩ := has_int h3
    exact ⟨⟨x, y, z⟩, rfl, hy⟩
theorem has_cols {n : Nat} {ds : List Dat} (h : hasT Tryz.prog n 26 ds) : ∃ l : List Co, ds = [.sl (l.map encC)] ∧ ∀ c ∈ l, c.name.length ≤ 9223372036854775807 := by
  cases n with
  | zero => exact h.elim
  | succ n =>
    unfold hasT at h
    rw [Tryz.underlying26] at h
    obtain ⟨es, rfl, _, h⟩ := h
    obtain ⟨l, rfl, hl⟩ := all_map (f := encC) fun c hc => has_col (h c hc)
    exact ⟨l, rfl, hl⟩
theorem has_tab {n : Nat} {ds : List Dat} (h : hasT Tryz.prog n 29 ds) : ∃ t : Tb, ds = encT t ∧ t.Named := by
  cases n with
  | zero => exact h.elim
  | succ n =>
    unfold hasT at h
    rw [Tryz.underlying29] at h
    obtain ⟨a, b, rfl, h1, c, d, rfl, h2, e, f, rfl, h3, rfl⟩ := h
    obtain ⟨x, rfl, hx⟩ := has_str h1
    obtain ⟨y, rfl, hy⟩ := has_cols h2
    obtain ⟨z, rfl⟩ := has_rows h3
    exact ⟨⟨x, y, z⟩, rfl, hx, hy⟩
theorem has_tabs {n : Nat} {ds : List Dat} (h : hasT Tryz.prog n 22 ds) : ∃ l : List Tb, ds = [.sl (l.map encT)] ∧ ∀ t ∈ l, t.Named := by
  cases n with
  | zero => exact h.elim
  | succ n =>
    unfold hasT at h
    rw [Tryz.underlying22] at h
    obtain ⟨es, rfl, _, h⟩ := h
    obtain ⟨l, rfl, hl⟩ := all_map (f := encT) fun c hc => has_tab (h c hc)
    exact ⟨l, rfl, hl⟩

/-- the cells that a table's data says -/
def flatV : Nat → DataW Unit → List Value
  | _, .lit (.int k n) => [.int k n]
  | _, .lit (.string l) => [.string ⟨l.toArray⟩]
  | n + 1, .agg l => l.flatMap (flatV n)
  | _, _ => []
noncomputable def laidHeap (h : Array Obj) : List (String × DataW Unit) → Array Obj
  | [] => h
  | (n, d) :: r => laidHeap (h.modify ((Tryz.prog.globalNamed n).getD 0) fun
      | .cells _ t frozen => .cells (flatV 5 d).toArray t frozen
      | o => o) r
noncomputable def laidWorld (os : Os) : World :=
  { World.holding Tryz.prog os ⟨#[], #[], []⟩ with heap := laidHeap (World.holding Tryz.prog os ⟨#[], #[], []⟩).heap laidL }
end Go.Proofs.YtimdilbcijgadaaGreatDoor
