/- The types of the arguments; no tables. -/
import Derived.Test.YtcglmokfjohdaaaK4
import Derived.Test.YtcglmokfjohdaaaAevD
import Derived.Test.YtcglmokfjohdaaaRows
import Derived.KernelRfl
set_option linter.unusedVariables false
set_option linter.unusedSimpArgs false
namespace Go.Proofs.Ytcglmokfjohdaaa
open Go.Aev Go.RowKit
set_option maxRecDepth 100000

theorem globs {W : World} (h : laidMet Try.prog ([] : List (String × DataW Unit)) W) (hsh : W.ShapedOpen Try.prog) : ∃ p, GlobOk (cfg p) W (sizes W) :=
  ⟨⟨0⟩, fun i cells hc => (by cases hc), fun i o hc => (by cases hc)⟩

def simples : List TypeId := [3, 4, 5, 9, 22, 23, 39, 40, 51, 56]
theorem simples_ok : simpleSet Try.prog simples = true := by kernel_rfl
theorem kids : Kids Try.prog (· < Try.prog.types.size) := kids_rows (by kernel_rfl) (by kernel_rfl)
theorem fulls : ∀ t e, t < Try.prog.types.size → Try.prog.underlying t = some (.slice e) → 0 < Try.prog.cellsOf e := slices_full_of _ (by kernel_rfl)

theorem u39 : Try.prog.underlying 39 = some (.slice 3) := by kernel_rfl
theorem u40 : Try.prog.underlying 40 = some (.slice 4) := by kernel_rfl

theorem all_map {α : Type} {f : α → List Dat} : ∀ {es : List (List Dat)}, (∀ c ∈ es, ∃ v, c = f v) → ∃ l : List α, es = l.map f
  | [], _ => ⟨[], rfl⟩
  | e :: es, h => by
    obtain ⟨v, rfl⟩ := h e (by simp)
    obtain ⟨l, hl⟩ := all_map (es := es) fun c hc => h c (List.mem_cons_of_mem _ hc)
    exact ⟨v :: l, by rw [hl]; rfl⟩

theorem has_int {n : Nat} {ds : List Dat} (h : hasT Try.prog n 3 ds) : ∃ x, ds = [.int .i64 x] := by
  cases n with
  | zero => exact h.elim
  | succ n =>
    unfold hasT at h
    rw [Try.underlying3] at h
    obtain ⟨x, rfl, _⟩ := h
    exact ⟨x, rfl⟩
theorem has_bool {n : Nat} {ds : List Dat} (h : hasT Try.prog n 4 ds) : ∃ b, ds = [.bool b] := by
  cases n with
  | zero => exact h.elim
  | succ n =>
    unfold hasT at h
    rw [Try.underlying4] at h
    exact h
theorem has_byte {n : Nat} {ds : List Dat} (h : hasT Try.prog n 5 ds) : ∃ b : UInt8, ds = uEnc b := by
  cases n with
  | zero => exact h.elim
  | succ n =>
    unfold hasT at h
    rw [Try.underlying5] at h
    obtain ⟨x, rfl, hw⟩ := h
    have h1 := bounds_u8 hw
    refine ⟨UInt8.ofNat x.toNat, ?_⟩
    unfold uEnc
    have : ((UInt8.ofNat x.toNat).toNat : Int) = x := by
      simp only [UInt8.toNat_ofNat']
      omega
    rw [this]
theorem has_string {n : Nat} {ds : List Dat} (h : hasT Try.prog n 9 ds) : ∃ s, ds = [.str s] ∧ s.size ≤ maxLen := by
  cases n with
  | zero => exact h.elim
  | succ n =>
    unfold hasT at h
    rw [Try.underlying9] at h
    exact h
theorem has_value {n : Nat} {ds : List Dat} (h : hasT Try.prog n 56 ds) : ∃ v : Vl, ds = v.enc := by
  cases n with
  | zero => exact h.elim
  | succ n =>
    unfold hasT at h
    rw [Try.underlying56] at h
    obtain ⟨a, b, rfl, h1, c, d, rfl, h2, e, f, rfl, h3, rfl⟩ := h
    obtain ⟨x, rfl⟩ := has_int h1
    obtain ⟨y, rfl⟩ := has_int h2
    obtain ⟨s, rfl, _⟩ := has_string h3
    exact ⟨⟨x, y, s⟩, rfl⟩
theorem has_row {n : Nat} {ds : List Dat} (h : hasT Try.prog n 22 ds) : ∃ l : List Vl, ds = [.sl (l.map Vl.enc)] := by
  cases n with
  | zero => exact h.elim
  | succ n =>
    unfold hasT at h
    rw [Try.underlying22] at h
    obtain ⟨es, rfl, _, h⟩ := h
    obtain ⟨l, rfl⟩ := all_map fun c hc => has_value (h c hc)
    exact ⟨l, rfl⟩
theorem has_bytes {n : Nat} {ds : List Dat} (h : hasT Try.prog n 23 ds) : ∃ l : List UInt8, ds = [.sl (l.map uEnc)] := by
  cases n with
  | zero => exact h.elim
  | succ n =>
    unfold hasT at h
    rw [Try.underlying23] at h
    obtain ⟨es, rfl, _, h⟩ := h
    obtain ⟨l, rfl⟩ := all_map fun c hc => has_byte (h c hc)
    exact ⟨l, rfl⟩
theorem has_ints {n : Nat} {ds : List Dat} (h : hasT Try.prog n 39 ds) : ∃ l : List Int, ds = [.sl (l.map iEnc)] := by
  cases n with
  | zero => exact h.elim
  | succ n =>
    unfold hasT at h
    rw [u39] at h
    obtain ⟨es, rfl, _, h⟩ := h
    obtain ⟨l, rfl⟩ := all_map (f := iEnc) fun c hc => has_int (h c hc)
    exact ⟨l, rfl⟩
theorem has_bools {n : Nat} {ds : List Dat} (h : hasT Try.prog n 40 ds) : ∃ l : List Bool, ds = [.sl (l.map bEnc)] := by
  cases n with
  | zero => exact h.elim
  | succ n =>
    unfold hasT at h
    rw [u40] at h
    obtain ⟨es, rfl, _, h⟩ := h
    obtain ⟨l, rfl⟩ := all_map (f := bEnc) fun c hc => has_bool (h c hc)
    exact ⟨l, rfl⟩
theorem has_rows {n : Nat} {ds : List Dat} (h : hasT Try.prog n 51 ds) : ∃ l : List (List Vl), ds = [.sl (l.map lEnc)] := by
  cases n with
  | zero => exact h.elim
  | succ n =>
    unfold hasT at h
    rw [Try.underlying51] at h
    obtain ⟨es, rfl, _, h⟩ := h
    obtain ⟨l, rfl⟩ := all_map (f := lEnc) fun c hc => has_row (h c hc)
    exact ⟨l, rfl⟩

noncomputable def laidWorld (os : Os) : World := World.holding Try.prog os ⟨#[], #[], []⟩
end Go.Proofs.Ytcglmokfjohdaaa
