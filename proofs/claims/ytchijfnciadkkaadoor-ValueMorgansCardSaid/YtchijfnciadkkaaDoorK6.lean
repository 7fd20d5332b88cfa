/- lives, and de Morgan's law. -/
import Derived.Test.YtchijfnciadkkaaDoorK5
set_option linter.unusedVariables false
set_option linter.unusedSimpArgs false
namespace Go.Proofs.YtchijfnciadkkaaDoor
open Go.Aev Go.RowKit

def t32 : CallFn := add t30 32 replA
theorem t32_ok (m : Int) : TblOk (cfg m) t32 := add_prim (t30_ok m) rfl
def its : ByteArray := ⟨#[105, 116, 39, 115]⟩
def shown : ByteArray := ⟨#[39, 105, 116, 39, 39, 115, 39]⟩
theorem e17 (m : Int) : evF (cfg m) t32 iterL 17 [.agg [(.int .i64 3, .none), (.int .i64 0, .none), (.str its, .none)]] [] = some ([(.dat (.str shown), .none)], []) := by kernel_rfl
def s17 (args : List AVal) (sg : Sig) : Option (List Ent × Sig) :=
  match args, sg with
  | [.agg [(.int .i64 3, .none), (.int .i64 0, .none), (.str s, .none)]], [] => cond (decide (s = its)) (some ([(.dat (.str shown), .none)], [])) none
  | _, _ => none
def t17 : CallFn := add t32 17 s17
theorem t17_ok (m : Int) : TblOk (cfg m) t17 := add_ok (t32_ok m) rfl fun args sg r h => by
  unfold s17 at h
  split at h
  · obtain ⟨h1, h2⟩ := cond_any h
    have h1 := of_decide_eq_true h1
    subst h1
    rw [← h2]; exact e17 m
  · cases h
theorem e7 (m : Int) : evF (cfg m) t17 iterL 7 [] [] = rb true := by kernel_rfl
def s7 (args : List AVal) (sg : Sig) : Option (List Ent × Sig) :=
  match args, sg with
  | [], [] => rb true
  | _, _ => none
def t7 : CallFn := add t17 7 s7
theorem t7_ok (m : Int) : TblOk (cfg m) t7 := add_ok (t17_ok m) rfl fun args sg r h => by
  unfold s7 at h
  split at h
  · rw [← h]; exact e7 m
  · cases h

theorem e6in (m : Int) : ∀ a b c : Fin 3, evF (cfg m) t7 iterL 6 [.dat (.int .i64 a.val), .dat (.int .i64 b.val), .dat (.int .i64 c.val)] [] = rb true
  | 0, 0, 0 => by kernel_rfl
  | 0, 0, 1 => by kernel_rfl
  | 0, 0, 2 => by kernel_rfl
  | 0, 1, 0 => by kernel_rfl
  | 0, 1, 1 => by kernel_rfl
  | 0, 1, 2 => by kernel_rfl
  | 0, 2, 0 => by kernel_rfl
  | 0, 2, 1 => by kernel_rfl
  | 0, 2, 2 => by kernel_rfl
  | 1, 0, 0 => by kernel_rfl
  | 1, 0, 1 => by kernel_rfl
  | 1, 0, 2 => by kernel_rfl
  | 1, 1, 0 => by kernel_rfl
  | 1, 1, 1 => by kernel_rfl
  | 1, 1, 2 => by kernel_rfl
  | 1, 2, 0 => by kernel_rfl
  | 1, 2, 1 => by kernel_rfl
  | 1, 2, 2 => by kernel_rfl
  | 2, 0, 0 => by kernel_rfl
  | 2, 0, 1 => by kernel_rfl
  | 2, 0, 2 => by kernel_rfl
  | 2, 1, 0 => by kernel_rfl
  | 2, 1, 1 => by kernel_rfl
  | 2, 1, 2 => by kernel_rfl
  | 2, 2, 0 => by kernel_rfl
  | 2, 2, 1 => by kernel_rfl
  | 2, 2, 2 => by kernel_rfl

def Sp.inner (a b c : Int) : Option (List Ent × Sig) :=
  cond (decide (Sp.not (Sp.and a b) = Sp.not (Sp.and (Sp.not (Sp.not a)) (Sp.not (Sp.not b)))))
    (cond (decide (Sp.and a (Sp.not (Sp.and (Sp.not b) (Sp.not c))) = Sp.not (Sp.and (Sp.not (Sp.and a b)) (Sp.not (Sp.and a c)))))
      (cond (decide (Sp.and (Sp.and a b) c = Sp.and a (Sp.and b c)))
        (cond (decide (Sp.not (Sp.not a) = a)) (rb (decide (Sp.tru (Sp.ofk a) (Sp.ofn a) ⟨#[]⟩ = a))) (rb false)) (rb false)) (rb false)) (rb false)
theorem e6nf (m a b c : Int) : evF (cfg m) t7 iterL 6 [.dat (.int .i64 a), .dat (.int .i64 b), .dat (.int .i64 c)] [] =
    cond (decide (a < 0)) (rb true) (cond (decide (2 < a)) (rb true) (cond (decide (b < 0)) (rb true) (cond (decide (2 < b)) (rb true)
      (cond (decide (c < 0)) (rb true) (cond (decide (2 < c)) (rb true) (Sp.inner a b c)))))) := by kernel_rfl
theorem e6 (m a b c : Int) : evF (cfg m) t7 iterL 6 [.dat (.int .i64 a), .dat (.int .i64 b), .dat (.int .i64 c)] [] = rb true := by
  by_cases h : (0 ≤ a ∧ a ≤ 2) ∧ (0 ≤ b ∧ b ≤ 2) ∧ (0 ≤ c ∧ c ≤ 2)
  · have := e6in m ⟨a.toNat, by omega⟩ ⟨b.toNat, by omega⟩ ⟨c.toNat, by omega⟩
    rw [Int.toNat_of_nonneg h.1.1, Int.toNat_of_nonneg h.2.1.1, Int.toNat_of_nonneg h.2.2.1] at this
    exact this
  · rw [e6nf]
    generalize Sp.inner a b c = X
    by_cases h1 : a < 0
    · rw [decide_eq_true h1]; rfl
    by_cases h2 : 2 < a
    · rw [decide_eq_false h1, decide_eq_true h2]; rfl
    by_cases h3 : b < 0
    · rw [decide_eq_false h1, decide_eq_false h2, decide_eq_true h3]; rfl
    by_cases h4 : 2 < b
    · rw [decide_eq_false h1, decide_eq_false h2, decide_eq_false h3, decide_eq_true h4]; rfl
    by_cases h5 : c < 0
    · rw [decide_eq_false h1, decide_eq_false h2, decide_eq_false h3, decide_eq_false h4, decide_eq_true h5]; rfl
    by_cases h6 : 2 < c
    · rw [decide_eq_false h1, decide_eq_false h2, decide_eq_false h3, decide_eq_false h4, decide_eq_false h5, decide_eq_true h6]; rfl
    exact absurd ⟨⟨by omega, by omega⟩, ⟨by omega, by omega⟩, by omega, by omega⟩ h

theorem call6 (m a b c : Int) : callL (cfg m) 6 [.dat (.int .i64 a), .dat (.int .i64 b), .dat (.int .i64 c)] [] = rb true := tbl_body (t7_ok m) rfl (e6 m a b c)
end Go.Proofs.YtchijfnciadkkaaDoor
