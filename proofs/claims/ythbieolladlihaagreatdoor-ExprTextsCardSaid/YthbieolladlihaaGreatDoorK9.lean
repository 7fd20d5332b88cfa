/- The text of an expression: the program's is the reference's. -/
import Derived.Test.YthbieolladlihaaGreatDoorK8
set_option linter.unusedVariables false
set_option linter.unusedSimpArgs false
namespace Go.Proofs.YthbieolladlihaaGreatDoor
open Go Go.Aev Go.RowKit Go.Sort

def TextAt (f : Nat) (h : Hd) (ks : Fo) : Prop := ∀ (γ : Type) (K : ByteArray → Option γ), Sp.expr_text f h.k h.n h.vk h.vn (mk h.vs) (mk h.tab) (mk h.col) ks.enc γ K = K (mk (textE h ks))
def ShowAt (f : Nat) (h : Hd) (ks : Fo) : Prop := ∀ (γ : Type) (K : ByteArray → Option γ), Sp.ref10_Show f h.k h.n h.vk h.vn (mk h.vs) (mk h.tab) (mk h.col) ks.enc γ K = K (mk (textE h ks))
def TextL : Fo → Prop
  | .nil => True
  | .cons h ks r => ((∀ f, 2 * ks.deep + 4 ≤ f → TextAt f h ks) ∧ ∀ f, 2 * ks.deep + 4 ≤ f → ShowAt f h ks) ∧ TextL r

/-- what a kind of an expression says of its parts -/
theorem may_op {h : Hd} {m : Nat} (hk : h.k = 3) (hm : may h m = true) : (m = 1 ∧ (h.n = 3 ∨ h.n = 15 ∨ h.n = 16 ∨ h.n = 17)) ∨ (m = 2 ∧ 1 ≤ h.n ∧ h.n < 15 ∧ h.n ≠ 3) := by
  unfold may at hm
  rw [if_neg (by omega), if_neg (by omega), if_pos hk] at hm
  simp only [Bool.and_eq_true, decide_eq_true_eq] at hm
  obtain ⟨_, _, _, h1, h2⟩ := hm
  unfold arity at h1 h2
  split at h2
  · left; omega
  · rename_i h3
    rw [if_neg h3] at h1
    split at h2
    · right; omega
    · rename_i h4; rw [if_neg h4] at h1; omega
theorem may_agg {h : Hd} {m : Nat} (hk : h.k = 4) (hm : may h m = true) : (m = 0 ∧ h.n = 1) ∨ (m = 1 ∧ 2 ≤ h.n ∧ h.n ≤ 5) := by
  unfold may at hm
  rw [if_neg (by omega), if_neg (by omega), if_neg (by omega), if_pos hk] at hm
  simp only [Bool.and_eq_true, decide_eq_true_eq] at hm
  obtain ⟨_, _, _, h1, h2, h3⟩ := hm
  split at h3 <;> omega
theorem may_kind {h : Hd} {m : Nat} (hm : may h m = true) : h.k = 1 ∨ h.k = 2 ∨ h.k = 3 ∨ h.k = 4 := by
  unfold may at hm
  split at hm
  · omega
  · split at hm
    · omega
    · split at hm
      · omega
      · split at hm
        · omega
        · cases hm

theorem len_one {F : Fo} (h : F.len = 1) : ∃ h0 k0, F = .cons h0 k0 .nil := by
  cases F with
  | nil => cases h
  | cons h0 k0 r => cases r with
    | nil => exact ⟨h0, k0, rfl⟩
    | cons _ _ _ => simp only [Fo.len] at h; omega
theorem len_two {F : Fo} (h : F.len = 2) : ∃ h0 k0 h1 k1, F = .cons h0 k0 (.cons h1 k1 .nil) := by
  cases F with
  | nil => cases h
  | cons h0 k0 r =>
    obtain ⟨h1, k1, rfl⟩ := len_one (F := r) (by simp only [Fo.len] at h; omega)
    exact ⟨h0, k0, h1, k1, rfl⟩

theorem ltD {n : Nat} (h : n ≤ 2000000) {m : Nat} (hm : m ≤ n) : decide (m ≤ 1152921504606846976) = true := decide_eq_true (by omega)

theorem sign_cell {β : Type} (n : Int) (h1 : 1 ≤ n) (h2 : n < 15) (F : ByteArray → Option β) :
    (cellAt (List.drop (Int.toNat n * 1) [Dat.str (bs []), Dat.str (bs [79, 82]), Dat.str (bs [65, 78, 68]), Dat.str (bs []), Dat.str (bs [61]), Dat.str (bs [60, 62]), Dat.str (bs [60]), Dat.str (bs [60, 61]), Dat.str (bs [62]), Dat.str (bs [62, 61]), Dat.str (bs [43]), Dat.str (bs [45]), Dat.str (bs [42]), Dat.str (bs [47]), Dat.str (bs [37])]) 0 fun (z28 : Dat) => asStr z28 F) = F (mk (signsL.getD n.toNat [])) := by
  obtain ⟨m, rfl⟩ : ∃ m : Nat, n = m := ⟨n.toNat, by omega⟩
  have hm : m < 15 := by omega
  have h : ∀ i : Fin 15, (cellAt (List.drop (Int.toNat (i.1 : Int) * 1) [Dat.str (bs []), Dat.str (bs [79, 82]), Dat.str (bs [65, 78, 68]), Dat.str (bs []), Dat.str (bs [61]), Dat.str (bs [60, 62]), Dat.str (bs [60]), Dat.str (bs [60, 61]), Dat.str (bs [62]), Dat.str (bs [62, 61]), Dat.str (bs [43]), Dat.str (bs [45]), Dat.str (bs [42]), Dat.str (bs [47]), Dat.str (bs [37])]) 0 fun (z28 : Dat) => asStr z28 F) = F (mk (signsL.getD i.1 [])) := by
    intro i
    match i with
    | 0 => rfl | 1 => rfl | 2 => rfl | 3 => rfl | 4 => rfl | 5 => rfl | 6 => rfl | 7 => rfl | 8 => rfl | 9 => rfl | 10 => rfl | 11 => rfl | 12 => rfl | 13 => rfl | 14 => rfl
  exact h ⟨m, hm⟩
theorem sign_elem {β : Type} (n : Int) (h1 : 1 ≤ n) (h2 : n < 15) (F : ByteArray → Option β) :
    (Sp.ref10_signs β fun z122 => elemAt z122 n fun z123 => bif List.length z123 == 1 then cellAt z123 0 fun z124 => asStr z124 F else none) = F (mk (signsL.getD n.toNat [])) := by
  obtain ⟨m, rfl⟩ : ∃ m : Nat, n = m := ⟨n.toNat, by omega⟩
  have hm : m < 15 := by omega
  have h : ∀ i : Fin 15, (Sp.ref10_signs β fun z122 => elemAt z122 (i.1 : Int) fun z123 => bif List.length z123 == 1 then cellAt z123 0 fun z124 => asStr z124 F else none) = F (mk (signsL.getD i.1 [])) := by
    intro i
    match i with
    | 0 => rfl | 1 => rfl | 2 => rfl | 3 => rfl | 4 => rfl | 5 => rfl | 6 => rfl | 7 => rfl | 8 => rfl | 9 => rfl | 10 => rfl | 11 => rfl | 12 => rfl | 13 => rfl | 14 => rfl
  exact h ⟨m, hm⟩
theorem word_cell {β : Type} (n : Int) (h1 : 2 ≤ n) (h2 : n ≤ 5) (F : ByteArray → Option β) :
    (bif decide (0 ≤ n) && decide (n < 6) then cellAt (List.drop (Int.toNat n * 1) [Dat.str (bs []), Dat.str (bs []), Dat.str (bs [67, 79, 85, 78, 84]), Dat.str (bs [83, 85, 77]), Dat.str (bs [77, 73, 78]), Dat.str (bs [77, 65, 88])]) 0 fun (z28 : Dat) => asStr z28 F else none) = F (mk (wordsL.getD n.toNat [])) := by
  have : n = 2 ∨ n = 3 ∨ n = 4 ∨ n = 5 := by omega
  rcases this with rfl | rfl | rfl | rfl <;> rfl
theorem word_elem {β : Type} (n : Int) (h1 : 2 ≤ n) (h2 : n ≤ 5) (F : ByteArray → Option β) :
    (elemAt [[Dat.str (bs [])], [Dat.str (bs [67, 79, 85, 78, 84])], [Dat.str (bs [67, 79, 85, 78, 84])], [Dat.str (bs [83, 85, 77])], [Dat.str (bs [77, 73, 78])], [Dat.str (bs [77, 65, 88])]] n fun (z11 : List Dat) => bif List.length z11 == 1 then cellAt z11 0 fun (z12 : Dat) => asStr z12 F else none) = F (mk (wordsL.getD n.toNat [])) := by
  have : n = 2 ∨ n = 3 ∨ n = 4 ∨ n = 5 := by omega
  rcases this with rfl | rfl | rfl | rfl <;> rfl

end Go.Proofs.YthbieolladlihaaGreatDoor
