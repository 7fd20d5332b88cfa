/- The types of the arguments, with how long their texts may be; what the second form's bound gives. -/
import Derived.Test.YtimdilbcijgadaaGreatDoorKG
import Derived.Test.YtimdilbcijgadaaGreatDoorPI
import Derived.Test.YtimdilbcijgadaaGreatDoorAevD
set_option linter.unusedVariables false
set_option linter.unusedSimpArgs false
set_option maxRecDepth 100000
namespace Go.Proofs.YtimdilbcijgadaaGreatDoor
open Go.Aev Go.RowKit

mutual
theorem txt_le {H : Type} : ∀ (d : DataW H), ∀ k ∈ txt d, k ≤ Rows.uptoBulk d
  | .lit l, k, hk => by
    cases l <;> simp only [txt, List.mem_singleton, List.not_mem_nil] at hk
    subst hk
    simp [Rows.uptoBulk]
  | .nil, k, hk => by simp [txt] at hk
  | .ptr d, k, hk => by simp [txt] at hk
  | .slice es sp, k, hk => by
    simp only [txt, List.mem_append] at hk
    simp only [Rows.uptoBulk]
    rcases hk with hk | hk
    · have := txtAll_le es k hk; omega
    · have := txtAll_le sp k hk; omega
  | .agg ps, k, hk => by
    simp only [txt] at hk
    simp only [Rows.uptoBulk]
    have := txtAll_le ps k hk
    omega
  | .iface n d, k, hk => by simp [txt] at hk
  | .map es, k, hk => by simp [txt] at hk
  | .held h, k, hk => by simp [txt] at hk
theorem txtAll_le {H : Type} : ∀ (l : List (DataW H)), ∀ k ∈ txtAll l, k ≤ Rows.uptoBulkAll l
  | [], k, hk => by simp [txtAll] at hk
  | d :: r, k, hk => by
    simp only [txtAll, List.mem_append] at hk
    simp only [Rows.uptoBulkAll]
    rcases hk with hk | hk
    · have := txt_le d k hk; omega
    · have := txtAll_le r k hk; omega
end
theorem upto_txt {H : Type} {ds : List (DataW H)} (h : Rows.uptoSmall H (ds ++ []) = true) : ∀ d ∈ ds, ∀ k ∈ txt d, k ≤ 1048576 := fun d hd k hk => by
  rw [List.append_nil] at h
  have hb : Rows.uptoBulkAll ds ≤ 1048576 := of_decide_eq_true h
  have := txtAll_le ds k (txtAll_mem hd hk)
  omega

abbrev BB : Nat := 1048576
theorem hasB_int {n : Nat} {ds : List Dat} (h : hasTB Tryz.prog BB n 3 ds) : ∃ x, ds = [.int .i64 x] := by
  cases n with
  | zero => exact h.elim
  | succ n =>
    unfold hasTB at h
    rw [Tryz.underlying3] at h
    obtain ⟨x, rfl, _⟩ := h
    exact ⟨x, rfl⟩
theorem hasB_str {n : Nat} {ds : List Dat} (h : hasTB Tryz.prog BB n 9 ds) : ∃ s : List UInt8, ds = [.str (mk s)] ∧ s.length ≤ 1048576 := by
  cases n with
  | zero => exact h.elim
  | succ n =>
    unfold hasTB at h
    rw [Tryz.underlying9] at h
    obtain ⟨s, rfl, hs⟩ := h
    refine ⟨s.data.toList, by rw [mk_data], ?_⟩
    have := size_mk s.data.toList
    rw [mk_data] at this
    rw [← this]
    exact hs
theorem hasB_value {n : Nat} {ds : List Dat} (h : hasTB Tryz.prog BB n 76 ds) : ∃ v : Vl, ds = v.enc := by
  cases n with
  | zero => exact h.elim
  | succ n =>
    unfold hasTB at h
    rw [Tryz.underlying76] at h
    obtain ⟨a, b, rfl, h1, c, d, rfl, h2, e, f, rfl, h3, rfl⟩ := h
    obtain ⟨x, rfl⟩ := hasB_int h1
    obtain ⟨y, rfl⟩ := hasB_int h2
    obtain ⟨s, rfl, _⟩ := hasB_str h3
    exact ⟨⟨x, y, mk s⟩, rfl⟩
theorem hasB_row {n : Nat} {ds : List Dat} (h : hasTB Tryz.prog BB n 38 ds) : ∃ l : List Vl, ds = [.sl (l.map Vl.enc)] := by
  cases n with
  | zero => exact h.elim
  | succ n =>
    unfold hasTB at h
    rw [Tryz.underlying38] at h
    obtain ⟨es, rfl, _, h⟩ := h
    obtain ⟨l, rfl, _⟩ := all_map (f := Vl.enc) (Q := fun _ => True) fun c hc => by
      obtain ⟨v, rfl⟩ := hasB_value (h c hc)
      exact ⟨v, rfl, trivial⟩
    exact ⟨l, rfl⟩
theorem hasB_rows {n : Nat} {ds : List Dat} (h : hasTB Tryz.prog BB n 27 ds) : ∃ l : List (List Vl), ds = [.sl (l.map lEnc)] := by
  cases n with
  | zero => exact h.elim
  | succ n =>
    unfold hasTB at h
    rw [Tryz.underlying27] at h
    obtain ⟨es, rfl, _, h⟩ := h
    obtain ⟨l, rfl, _⟩ := all_map (f := lEnc) (Q := fun _ => True) fun c hc => by
      obtain ⟨v, rfl⟩ := hasB_row (h c hc)
      exact ⟨v, rfl, trivial⟩
    exact ⟨l, rfl⟩
theorem hasB_col {n : Nat} {ds : List Dat} (h : hasTB Tryz.prog BB n 57 ds) : ∃ c : Co, ds = encC c ∧ c.name.length ≤ 1048576 := by
  cases n with
  | zero => exact h.elim
  | succ n =>
    unfold hasTB at h
    rw [Tryz.underlying57] at h
    obtain ⟨a, b, rfl, h1, c, d, rfl, h2, e, f, rfl, h3, rfl⟩ := h
    obtain ⟨x, rfl, _⟩ := hasB_str h1
    obtain ⟨y, rfl, hy⟩ := hasB_str h2
    obtain ⟨z, rfl⟩ := hasB_int h3
    exact ⟨⟨x, y, z⟩, rfl, hy⟩
theorem hasB_cols {n : Nat} {ds : List Dat} (h : hasTB Tryz.prog BB n 26 ds) : ∃ l : List Co, ds = [.sl (l.map encC)] ∧ ∀ c ∈ l, c.name.length ≤ 1048576 := by
  cases n with
  | zero => exact h.elim
  | succ n =>
    unfold hasTB at h
    rw [Tryz.underlying26] at h
    obtain ⟨es, rfl, _, h⟩ := h
    obtain ⟨l, rfl, hl⟩ := all_map (f := encC) fun c hc => hasB_col (h c hc)
    exact ⟨l, rfl, hl⟩
theorem hasB_tab {n : Nat} {ds : List Dat} (h : hasTB Tryz.prog BB n 29 ds) : ∃ t : Tb, ds = encT t ∧ Short t := by
  cases n with
  | zero => exact h.elim
  | succ n =>
    unfold hasTB at h
    rw [Tryz.underlying29] at h
    obtain ⟨a, b, rfl, h1, c, d, rfl, h2, e, f, rfl, h3, rfl⟩ := h
    obtain ⟨x, rfl, hx⟩ := hasB_str h1
    obtain ⟨y, rfl, hy⟩ := hasB_cols h2
    obtain ⟨z, rfl⟩ := hasB_rows h3
    exact ⟨⟨x, y, z⟩, rfl, hx, hy⟩
end Go.Proofs.YtimdilbcijgadaaGreatDoor
