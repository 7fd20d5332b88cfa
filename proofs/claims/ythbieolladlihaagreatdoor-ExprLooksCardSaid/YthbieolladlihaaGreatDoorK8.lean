/- Texts of values and of expressions. -/
import Derived.Test.YthbieolladlihaaGreatDoorKE
set_option linter.unusedVariables false
set_option linter.unusedSimpArgs false
namespace Go.Proofs.YthbieolladlihaaGreatDoor
open Go Go.Aev Go.RowKit Go.Sort

theorem showV_cases {k n : Int} {s : List UInt8} (hok : V.ok k n (mk s) = true) : (k = 0 ∧ s = []) ∨ (k = 1 ∧ (n = 0 ∨ n = 1) ∧ s = []) ∨ (k = 2 ∧ -9007199254740991 ≤ n ∧ n ≤ 9007199254740991 ∧ s = []) ∨ (k = 3 ∧ n = 0 ∧ s.length ≤ 64) := by
  have e : ∀ s : List UInt8, decide (mk s = bs []) = decide (s = []) := fun s => by rw [decide_eq_decide, show bs [] = mk [] from rfl, mk_inj]
  simp only [V.ok, e, size_mk, Bool.or_eq_true, Bool.and_eq_true, decide_eq_true_eq] at hok
  rcases hok with (((⟨⟨h1, h2⟩, h3⟩ | ⟨⟨h1, h2⟩, h3⟩) | ⟨⟨⟨h1, h2⟩, h4⟩, h3⟩) | ⟨⟨h1, h2⟩, h3⟩)
  · exact .inl ⟨h1, h3⟩
  · exact .inr (.inl ⟨h1, h2, h3⟩)
  · exact .inr (.inr (.inl ⟨h1, h2, h4, h3⟩))
  · exact .inr (.inr (.inr ⟨h1, h2, by omega⟩))

theorem value_Show_eq (k n : Int) (s : List UInt8) (γ : Type) (K : ByteArray → Option γ) : Sp.value_Show k n (mk s) γ K = K (mk (showV k n s)) := by
  unfold Sp.value_Show Sp.B_value_Show showV
  rw [value_Check_eq]
  cases hok : V.ok k n (mk s) with
  | false => rfl
  | true =>
    rw [if_pos rfl]
    rcases showV_cases hok with ⟨rfl, _⟩ | ⟨rfl, h1, _⟩ | ⟨rfl, h1, h2, _⟩ | ⟨rfl, _, hl⟩
    · rfl
    · rcases h1 with rfl | rfl <;> rfl
    · have h3 : -9223372036854775808 ≤ n := by omega
      have h4 : n ≤ 9223372036854775807 := by omega
      show Sp.strconv_Itoa n γ K = K (mk (Lib.itoa n))
      unfold Sp.strconv_Itoa
      rw [decide_eq_true h3, decide_eq_true h4]
      rfl
    · have hc : Lib.countB (mk s) (mk [39]) ≤ s.length + 1 := by
        have := Lib.count_le s [39]
        simpa [Lib.countB] using this
      have hd := dbl_length s
      have r0 : (decide ((mk s).size < 4294967281) && decide (1 ≤ (bs [39]).size) && decide ((mk s).size + Lib.countB (mk s) (bs [39]) * (bs [39, 39]).size ≤ 140737488355328)) = true := by
        simp only [Bool.and_eq_true, decide_eq_true_eq]
        refine ⟨⟨by rw [size_mk]; omega, by decide⟩, ?_⟩
        have : (bs [39, 39]).size = 2 := rfl
        have e39 : bs [39] = mk [39] := rfl
        rw [this, size_mk, e39]; omega
      have r1 : (⟨(Lib.replaceAll (mk s).data.toList (bs [39]).data.toList (bs [39, 39]).data.toList).toArray⟩ : ByteArray) = mk (dbl s) := by
        rw [show bs [39] = mk [39] from rfl, data_mk, data_mk]
        show mk (Lib.replaceAll s [39] [39, 39]) = _
        rw [replaceAll_dbl]
      show (Sp.strings_ReplaceAll (mk s) (bs [39]) (bs [39, 39]) γ fun z7 => bif decide (1 + ByteArray.size z7 ≤ 1152921504606846976) then bif decide (ByteArray.size (bs [39] ++ z7) + 1 ≤ 1152921504606846976) then K (bs [39] ++ z7 ++ bs [39]) else none else none) = _
      unfold Sp.strings_ReplaceAll
      have g1 : 1 + (dbl s).length ≤ 1152921504606846976 := by omega
      have g2 : ([39] ++ dbl s).length + 1 ≤ 1152921504606846976 := by simp only [List.length_append, List.length_cons, List.length_nil]; omega
      rw [r0, cond_true, r1]
      show (bif decide (1 + (mk (dbl s)).size ≤ 1152921504606846976) then bif decide (ByteArray.size (bs [39] ++ mk (dbl s)) + 1 ≤ 1152921504606846976) then K (bs [39] ++ mk (dbl s) ++ bs [39]) else none else none) = _
      rw [size_mk, decide_eq_true g1, cond_true, show bs [39] = mk [39] from rfl, mk_append, size_mk, decide_eq_true g2, cond_true, mk_append]
      rfl

theorem ref01_Show_eq (k n : Int) (s : List UInt8) (γ : Type) (K : ByteArray → Option γ) : Sp.ref01_Show k n (mk s) γ K = K (mk (showV k n s)) := by
  unfold Sp.ref01_Show Sp.B_ref01_Show showV
  rw [ref01_Check_eq]
  cases hok : V.ok k n (mk s) with
  | false => rfl
  | true =>
    rw [if_pos rfl]
    rcases showV_cases hok with ⟨rfl, _⟩ | ⟨rfl, h1, _⟩ | ⟨rfl, h1, h2, _⟩ | ⟨rfl, _, hl⟩
    · rfl
    · rcases h1 with rfl | rfl <;> rfl
    · show (Sp.ref01_Digits fuel n γ fun z => K z) = K (mk (Lib.itoa n))
      exact ref01_Digits_eq n ⟨h1, h2⟩ γ _
    · have hd := dbl_length s
      have hloop := show_loop s fuel [39] s 0 3 n γ
      have hf : s.length < fuel := by unfold fuel; omega
      have hloop := fun K => hloop K rfl hf (by omega) (by simp) (by omega)
      refine (hloop _).trans ?_
      show (bif decide (ByteArray.size (mk ([39] ++ dbl s)) + 1 ≤ 1152921504606846976) then K (mk ([39] ++ dbl s) ++ bs [39]) else none) = _
      have g2 : ([39] ++ dbl s).length + 1 ≤ 1152921504606846976 := by simp only [List.length_append, List.length_cons, List.length_nil]; omega
      rw [size_mk, decide_eq_true g2, cond_true, show bs [39] = mk [39] from rfl, mk_append]
      rfl

theorem showV_len {k n : Int} {s : List UInt8} : (showV k n s).length ≤ 400 := by
  unfold showV
  split
  · rename_i hok
    rcases showV_cases hok with ⟨rfl, _⟩ | ⟨rfl, h1, _⟩ | ⟨rfl, h1, h2, _⟩ | ⟨rfl, _, hl⟩
    · show ([78, 85, 76, 76] : List UInt8).length ≤ 400
      decide
    · rcases h1 with rfl | rfl
      · show ([70, 65, 76, 83, 69] : List UInt8).length ≤ 400
        decide
      · show ([84, 82, 85, 69] : List UInt8).length ≤ 400
        decide
    · have := decDigits_short n.natAbs (by omega)
      have h9 := decDigits_short n.toNat (by omega)
      show (Lib.itoa n).length ≤ 400
      unfold Lib.itoa
      split
      · simp only [List.length_cons]; omega
      · omega
    · have := dbl_length s
      show ([39] ++ dbl s ++ [39]).length ≤ 400
      simp only [List.length_append, List.length_cons, List.length_nil]
      omega
  · decide

/-! ### expressions -/
def signsL : List (List UInt8) := [[], [79, 82], [65, 78, 68], [], [61], [60, 62], [60], [60, 61], [62], [62, 61], [43], [45], [42], [47], [37]]
def wordsL : List (List UInt8) := [[], [67, 79, 85, 78, 84], [67, 79, 85, 78, 84], [83, 85, 77], [77, 73, 78], [77, 65, 88]]
def opText (n : Int) (a b : List UInt8) : List UInt8 :=
  if n = 3 then [40, 78, 79, 84, 32] ++ a ++ [41] else if n = 15 then [40, 45, 32] ++ a ++ [41] else if n = 16 then [40] ++ a ++ [32, 73, 83, 32, 78, 85, 76, 76, 41]
  else if n = 17 then [40] ++ a ++ [32, 73, 83, 32, 78, 79, 84, 32, 78, 85, 76, 76, 41] else [40] ++ a ++ [32] ++ signsL.getD n.toNat [] ++ [32] ++ b ++ [41]
def textH (h : Hd) (a b : List UInt8) : List UInt8 :=
  if h.k = 1 then showV h.vk h.vn h.vs else if h.k = 3 then opText h.n a b
  else if h.k = 4 then (if h.n = 1 then [67, 79, 85, 78, 84, 40, 42, 41] else wordsL.getD h.n.toNat [] ++ [40] ++ a ++ [41])
  else if h.tab = [] then h.col else h.tab ++ [46] ++ h.col
def Fo.texts : Fo → List (List UInt8)
  | nil => []
  | cons h ks r => textH h (ks.texts.getD 0 []) (ks.texts.getD 1 []) :: r.texts
def textE (h : Hd) (ks : Fo) : List UInt8 := textH h (ks.texts.getD 0 []) (ks.texts.getD 1 [])

/-- each may be, but for its parts -/
def wfL : Fo → Bool
  | .nil => true
  | .cons h ks r => may h ks.len && (wfL ks && wfL r)
theorem wf_good : ∀ (F : Fo) (d : Nat) (a : Bool), goodL F d a = true → wfL F = true
  | .nil, _, _, _ => rfl
  | .cons h ks r, d, a, hg => by
    simp only [goodL, Bool.and_eq_true] at hg
    simp only [wfL, Bool.and_eq_true]
    exact ⟨hg.1.2.1, wf_good ks _ _ hg.1.2.2.2, wf_good r _ _ hg.2⟩

def total : List (List UInt8) → Nat
  | [] => 0
  | t :: ts => t.length + total ts
theorem total_two : ∀ l : List (List UInt8), (l.getD 0 []).length + (l.getD 1 []).length ≤ total l
  | [] => by simp [total]
  | [a] => by simp [total]
  | a :: b :: r => by simp only [total, List.getD_cons_zero, List.getD_cons_succ]; omega
theorem signs_len (n : Nat) : (signsL.getD n []).length ≤ 3 := by
  have h : ∀ i : Fin 15, (signsL.getD i.1 []).length ≤ 3 := by decide
  by_cases hn : n < 15
  · exact h ⟨n, hn⟩
  · rw [List.getD_eq_getElem?_getD, List.getElem?_eq_none (by show 15 ≤ n; omega)]; decide
theorem words_len (n : Nat) : (wordsL.getD n []).length ≤ 5 := by
  have h : ∀ i : Fin 6, (wordsL.getD i.1 []).length ≤ 5 := by decide
  by_cases hn : n < 6
  · exact h ⟨n, hn⟩
  · rw [List.getD_eq_getElem?_getD, List.getElem?_eq_none (by show 6 ≤ n; omega)]; decide
theorem textH_len (h : Hd) (hb : h.big = false) (a b : List UInt8) : (textH h a b).length ≤ 500 + a.length + b.length := by
  simp only [Hd.big, Bool.or_eq_false_iff, decide_eq_false_iff_not] at hb
  have h1 := @showV_len h.vk h.vn h.vs
  have h2 := signs_len h.n.toNat
  have h3 := words_len h.n.toNat
  unfold textH opText
  repeat' split
  all_goals (first | omega | (simp only [List.length_append, List.length_cons, List.length_nil]; omega))
theorem texts_total : ∀ (F : Fo), F.all (fun h => !h.big) = true → total F.texts ≤ 500 * F.size
  | .nil, _ => by simp [Fo.texts, total]
  | .cons h ks r, hb => by
    simp only [Fo.all, Bool.and_eq_true, Bool.not_eq_true'] at hb
    have h1 := texts_total ks hb.1.2
    have h2 := texts_total r hb.2
    have h3 := textH_len h hb.1.1 (ks.texts.getD 0 []) (ks.texts.getD 1 [])
    have h4 := total_two ks.texts
    simp only [Fo.texts, total, Fo.size]
    omega

theorem elem0 {β : Type} {h : Hd} {ks r : Fo} (G : Int → Int → Int → Int → ByteArray → ByteArray → ByteArray → List (List Dat) → Option β) :
    (elemAt (Fo.cons h ks r).enc 0 fun z => bif List.length z == 8 then cellAt z 0 fun z1 => Aev.asInt IntKind.i64 z1 fun a => cellAt z 1 fun z2 => Aev.asInt IntKind.i64 z2 fun b => cellAt z 2 fun z3 => Aev.asInt IntKind.i64 z3 fun c => cellAt z 3 fun z4 => Aev.asInt IntKind.i64 z4 fun d => cellAt z 4 fun z5 => asStr z5 fun s => cellAt z 5 fun z6 => asStr z6 fun t => cellAt z 6 fun z7 => asStr z7 fun u => cellAt z 7 fun z8 => asSl z8 fun l => G a b c d s t u l else none) =
      G h.k h.n h.vk h.vn (mk h.vs) (mk h.tab) (mk h.col) ks.enc := elem_enc (T := .cons h ks r) (i := 0) rfl G
theorem elem1 {β : Type} {h0 h : Hd} {k0 ks r : Fo} (G : Int → Int → Int → Int → ByteArray → ByteArray → ByteArray → List (List Dat) → Option β) :
    (elemAt (Fo.cons h0 k0 (.cons h ks r)).enc 1 fun z => bif List.length z == 8 then cellAt z 0 fun z1 => Aev.asInt IntKind.i64 z1 fun a => cellAt z 1 fun z2 => Aev.asInt IntKind.i64 z2 fun b => cellAt z 2 fun z3 => Aev.asInt IntKind.i64 z3 fun c => cellAt z 3 fun z4 => Aev.asInt IntKind.i64 z4 fun d => cellAt z 4 fun z5 => asStr z5 fun s => cellAt z 5 fun z6 => asStr z6 fun t => cellAt z 6 fun z7 => asStr z7 fun u => cellAt z 7 fun z8 => asSl z8 fun l => G a b c d s t u l else none) =
      G h.k h.n h.vk h.vn (mk h.vs) (mk h.tab) (mk h.col) ks.enc := elem_enc (T := .cons h0 k0 (.cons h ks r)) (i := 1) rfl G

end Go.Proofs.YthbieolladlihaaGreatDoor
