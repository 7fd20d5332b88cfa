/- The text of an expression, computed. -/
import Derived.Test.YthbieolladlihaaGreatDoorK9
set_option linter.unusedVariables false
set_option linter.unusedSimpArgs false
namespace Go.Proofs.YthbieolladlihaaGreatDoor
open Go Go.Aev Go.RowKit Go.Sort

theorem wrap1 {β : Type} {p q a : List UInt8} {c d : Nat} (h1 : c + a.length ≤ 1152921504606846976) (h2 : p.length + a.length + d ≤ 1152921504606846976) (K : ByteArray → Option β) :
    (bif decide (c + ByteArray.size (mk a) ≤ 1152921504606846976) then bif decide (ByteArray.size (mk p ++ mk a) + d ≤ 1152921504606846976) then K (mk p ++ mk a ++ mk q) else none else none) = K (mk (p ++ a ++ q)) := by
  rw [decide_eq_true (show c + ByteArray.size (mk a) ≤ 1152921504606846976 by rw [size_mk]; exact h1), cond_true, decide_eq_true (show ByteArray.size (mk p ++ mk a) + d ≤ 1152921504606846976 by rw [mk_append, size_mk, List.length_append]; exact h2), cond_true, mk_append, mk_append]
theorem wrapW {β : Type} {p q r a : List UInt8} (h1 : p.length + q.length + a.length + 1 ≤ 1152921504606846976) (hq : q.length = 1) (K : ByteArray → Option β) (X : (ByteArray → Option β) → Option β) (hX : ∀ G : ByteArray → Option β, X G = G (mk a)) :
    (bif decide (ByteArray.size (mk p) + 1 ≤ 1152921504606846976) then X fun z31 => bif decide (ByteArray.size (mk p ++ mk q) + ByteArray.size z31 ≤ 1152921504606846976) then bif decide (ByteArray.size (mk p ++ mk q ++ z31) + 1 ≤ 1152921504606846976) then K (mk p ++ mk q ++ z31 ++ mk r) else none else none else none) = K (mk (p ++ q ++ a ++ r)) := by
  rw [decide_eq_true (show ByteArray.size (mk p) + 1 ≤ 1152921504606846976 by rw [size_mk]; omega), cond_true, hX]
  rw [decide_eq_true (show ByteArray.size (mk p ++ mk q) + ByteArray.size (mk a) ≤ 1152921504606846976 by rw [mk_append, size_mk, size_mk, List.length_append]; omega), cond_true,
    decide_eq_true (show ByteArray.size (mk p ++ mk q ++ mk a) + 1 ≤ 1152921504606846976 by rw [mk_append, mk_append, size_mk, List.length_append, List.length_append]; omega), cond_true, mk_append, mk_append, mk_append]
/-- an operator of two parts -/
theorem wrap2 {β : Type} {a s b : List UInt8} (h1 : a.length + s.length + b.length + 10 ≤ 1152921504606846976) (K : ByteArray → Option β) (S X : (ByteArray → Option β) → Option β) (hS : ∀ G : ByteArray → Option β, S G = G (mk s)) (hX : ∀ G : ByteArray → Option β, X G = G (mk b)) :
    (bif decide (1 + ByteArray.size (mk a) ≤ 1152921504606846976) then bif decide (ByteArray.size (mk [40] ++ mk a) + 1 ≤ 1152921504606846976) then S fun z29 => bif decide (ByteArray.size (mk [40] ++ mk a ++ mk [32]) + ByteArray.size z29 ≤ 1152921504606846976) then bif decide (ByteArray.size (mk [40] ++ mk a ++ mk [32] ++ z29) + 1 ≤ 1152921504606846976) then X fun z47 => bif decide (ByteArray.size (mk [40] ++ mk a ++ mk [32] ++ z29 ++ mk [32]) + ByteArray.size z47 ≤ 1152921504606846976) then bif decide (ByteArray.size (mk [40] ++ mk a ++ mk [32] ++ z29 ++ mk [32] ++ z47) + 1 ≤ 1152921504606846976) then K (mk [40] ++ mk a ++ mk [32] ++ z29 ++ mk [32] ++ z47 ++ mk [41]) else none else none else none else none else none else none) =
      K (mk ([40] ++ a ++ [32] ++ s ++ [32] ++ b ++ [41])) := by
  rw [decide_eq_true (show 1 + ByteArray.size (mk a) ≤ 1152921504606846976 by rw [size_mk]; omega), cond_true, decide_eq_true (show ByteArray.size (mk [40] ++ mk a) + 1 ≤ 1152921504606846976 by rw [mk_append, size_mk, List.length_append, List.length_singleton]; omega), cond_true, hS]
  rw [decide_eq_true (show ByteArray.size (mk [40] ++ mk a ++ mk [32]) + ByteArray.size (mk s) ≤ 1152921504606846976 by simp only [mk_append, size_mk, List.length_append, List.length_singleton]; omega), cond_true,
    decide_eq_true (show ByteArray.size (mk [40] ++ mk a ++ mk [32] ++ mk s) + 1 ≤ 1152921504606846976 by simp only [mk_append, size_mk, List.length_append, List.length_singleton]; omega), cond_true, hX]
  rw [decide_eq_true (show ByteArray.size (mk [40] ++ mk a ++ mk [32] ++ mk s ++ mk [32]) + ByteArray.size (mk b) ≤ 1152921504606846976 by simp only [mk_append, size_mk, List.length_append, List.length_singleton]; omega), cond_true,
    decide_eq_true (show ByteArray.size (mk [40] ++ mk a ++ mk [32] ++ mk s ++ mk [32] ++ mk b) + 1 ≤ 1152921504606846976 by simp only [mk_append, size_mk, List.length_append, List.length_singleton]; omega), cond_true]
  simp only [mk_append]
theorem empty_dec (s : List UInt8) : decide (mk s = bs []) = decide (s = []) := by rw [decide_eq_decide, show bs [] = mk [] from rfl, mk_inj]
theorem col_text {β : Type} {tab col : List UInt8} (h1 : tab.length + col.length + 1 ≤ 1152921504606846976) (K : ByteArray → Option β) :
    (bif !decide (mk tab = bs []) then bif decide (ByteArray.size (mk tab) + 1 ≤ 1152921504606846976) then bif decide (ByteArray.size (mk tab ++ bs [46]) + ByteArray.size (mk col) ≤ 1152921504606846976) then K (mk tab ++ bs [46] ++ mk col) else none else none else K (mk col)) = K (mk (if tab = [] then col else tab ++ [46] ++ col)) := by
  rw [empty_dec]
  by_cases ht : tab = []
  · rw [decide_eq_true ht, if_pos ht]; rfl
  · rw [decide_eq_false ht, if_neg ht, Bool.not_false, cond_true, show bs [46] = mk [46] from rfl, decide_eq_true (show ByteArray.size (mk tab) + 1 ≤ 1152921504606846976 by rw [size_mk]; omega), cond_true, decide_eq_true (show ByteArray.size (mk tab ++ mk [46]) + ByteArray.size (mk col) ≤ 1152921504606846976 by rw [mk_append, size_mk, size_mk, List.length_append, List.length_singleton]; omega), cond_true, mk_append, mk_append]

theorem text_E {ks : Fo} (ih : TextL ks) (h : Hd) (f : Nat) (hf : 2 * ks.deep + 4 ≤ f) (hm : may h ks.len = true) (hb : h.big = false) (hbs : ks.all (fun h => !h.big) = true) (hsz : ks.size ≤ 1000) : TextAt f h ks ∧ ShowAt f h ks := by
  have htot := texts_total ks hbs
  have htwo := total_two ks.texts
  have hb' := hb
  simp only [Hd.big, Bool.or_eq_false_iff, decide_eq_false_iff_not] at hb'
  obtain ⟨g, rfl⟩ : ∃ g, f = g + 2 := ⟨f - 2, by omega⟩
  unfold TextAt ShowAt
  rw [Sp.expr_text, Sp.ref10_Show]
  unfold Sp.B_expr_text Sp.B_ref10_Show
  by_cases h1 : h.k = 1
  · have e : textE h ks = showV h.vk h.vn h.vs := by unfold textE textH; rw [if_pos h1]
    rw [e, decide_eq_true h1]
    exact ⟨fun γ K => value_Show_eq _ _ _ γ _, fun γ K => ref01_Show_eq _ _ _ γ _⟩
  rw [decide_eq_false h1]
  simp only [cond_false]
  by_cases h3 : h.k = 3
  · have e : textE h ks = opText h.n (ks.texts.getD 0 []) (ks.texts.getD 1 []) := by unfold textE textH; rw [if_neg h1, if_pos h3]
    rw [e, decide_eq_true h3, decide_eq_false (show ¬ h.k = 2 by omega), decide_eq_false (show ¬ h.k = 4 by omega)]
    simp only [cond_true, cond_false]
    rw [Sp.expr_op]
    unfold Sp.B_expr_op
    rcases may_op h3 hm with ⟨hlen, hn⟩ | ⟨hlen, hn1, hn2, hn3⟩
    · obtain ⟨h0, k0, rfl⟩ := len_one hlen
      obtain ⟨⟨ih1, ih2⟩, _⟩ := ih
      simp only [Fo.deep] at hf
      have t0 := ih1 g (by omega)
      have s0 := ih2 (g + 1) (by omega)
      have e0 : (Fo.cons h0 k0 .nil).texts.getD 0 [] = textE h0 k0 := rfl
      rw [e0] at htwo ⊢
      have hl0 : (textE h0 k0).length ≤ 500000 := by omega
      rcases hn with hn | hn | hn | hn
      · rw [hn]
        refine ⟨fun γ K => ?_, fun γ K => ?_⟩
        · rw [elem0, t0]; exact wrap1 (p := [40, 78, 79, 84, 32]) (q := [41]) (c := 5) (d := 1) (by omega) (by simp only [List.length_cons, List.length_nil]; omega) K
        · rw [decide_eq_true (show (3 : Int) = 3 from rfl), cond_true, elem0, s0]; exact wrap1 (p := [40, 78, 79, 84, 32]) (q := [41]) (c := 5) (d := 1) (by omega) (by simp only [List.length_cons, List.length_nil]; omega) K
      · rw [hn]
        refine ⟨fun γ K => ?_, fun γ K => ?_⟩
        · rw [elem0, t0]; exact wrap1 (p := [40, 45, 32]) (q := [41]) (c := 3) (d := 1) (by omega) (by simp only [List.length_cons, List.length_nil]; omega) K
        · rw [decide_eq_false (show ¬ (15 : Int) = 3 by decide), cond_false, decide_eq_true (show (15 : Int) = 15 from rfl), cond_true, elem0, s0]; exact wrap1 (p := [40, 45, 32]) (q := [41]) (c := 3) (d := 1) (by omega) (by simp only [List.length_cons, List.length_nil]; omega) K
      · rw [hn]
        refine ⟨fun γ K => ?_, fun γ K => ?_⟩
        · rw [elem0, t0]; exact wrap1 (p := [40]) (q := [32, 73, 83, 32, 78, 85, 76, 76, 41]) (c := 1) (d := 9) (by omega) (by simp only [List.length_cons, List.length_nil]; omega) K
        · rw [decide_eq_false (show ¬ (16 : Int) = 3 by decide), cond_false, decide_eq_false (show ¬ (16 : Int) = 15 by decide), cond_false, decide_eq_true (show (16 : Int) = 16 from rfl), cond_true, elem0, s0]; exact wrap1 (p := [40]) (q := [32, 73, 83, 32, 78, 85, 76, 76, 41]) (c := 1) (d := 9) (by omega) (by simp only [List.length_cons, List.length_nil]; omega) K
      · rw [hn]
        refine ⟨fun γ K => ?_, fun γ K => ?_⟩
        · rw [elem0, t0]; exact wrap1 (p := [40]) (q := [32, 73, 83, 32, 78, 79, 84, 32, 78, 85, 76, 76, 41]) (c := 1) (d := 13) (by omega) (by simp only [List.length_cons, List.length_nil]; omega) K
        · rw [decide_eq_false (show ¬ (17 : Int) = 3 by decide), cond_false, decide_eq_false (show ¬ (17 : Int) = 15 by decide), cond_false, decide_eq_false (show ¬ (17 : Int) = 16 by decide), cond_false, decide_eq_true (show (17 : Int) = 17 from rfl), cond_true, elem0, s0]; exact wrap1 (p := [40]) (q := [32, 73, 83, 32, 78, 79, 84, 32, 78, 85, 76, 76, 41]) (c := 1) (d := 13) (by omega) (by simp only [List.length_cons, List.length_nil]; omega) K
    · obtain ⟨h0, k0, h1', k1, rfl⟩ := len_two hlen
      obtain ⟨⟨ih1, ih2⟩, ⟨ih3, ih4⟩, _⟩ := ih
      simp only [Fo.deep] at hf
      have t0 := ih1 g (by omega)
      have s0 := ih2 (g + 1) (by omega)
      have t1 := ih3 g (by omega)
      have s1 := ih4 (g + 1) (by omega)
      have e0 : (Fo.cons h0 k0 (.cons h1' k1 .nil)).texts.getD 0 [] = textE h0 k0 := rfl
      have e1 : (Fo.cons h0 k0 (.cons h1' k1 .nil)).texts.getD 1 [] = textE h1' k1 := rfl
      rw [e0, e1] at htwo ⊢
      have hsl := signs_len h.n.toNat
      have e2 : opText h.n (textE h0 k0) (textE h1' k1) = [40] ++ textE h0 k0 ++ [32] ++ signsL.getD h.n.toNat [] ++ [32] ++ textE h1' k1 ++ [41] := by
        unfold opText; rw [if_neg hn3, if_neg (by omega), if_neg (by omega), if_neg (by omega)]
      rw [e2, decide_eq_false hn3, decide_eq_false (show ¬ h.n = 15 by omega), decide_eq_false (show ¬ h.n = 16 by omega), decide_eq_false (show ¬ h.n = 17 by omega)]
      simp only [cond_false]
      refine ⟨fun γ K => ?_, fun γ K => ?_⟩
      · rw [elem0, t0, decide_eq_true (show (0 : Int) ≤ h.n by omega), decide_eq_true hn2]
        exact wrap2 (a := textE h0 k0) (s := signsL.getD h.n.toNat []) (b := textE h1' k1) (by omega) K _ _ (fun G => sign_cell h.n hn1 hn2 G) (fun G => by first | exact t1 _ G | rw [elem1, t1])
      · rw [elem0, s0]
        exact wrap2 (a := textE h0 k0) (s := signsL.getD h.n.toNat []) (b := textE h1' k1) (by omega) K (fun G => Sp.ref10_signs γ fun z122 => elemAt z122 h.n fun z123 => bif List.length z123 == 1 then cellAt z123 0 fun z124 => asStr z124 G else none) (fun G => elemAt (Fo.cons h0 k0 (.cons h1' k1 .nil)).enc 1 fun z => bif List.length z == 8 then cellAt z 0 fun z1 => Aev.asInt IntKind.i64 z1 fun a => cellAt z 1 fun z2 => Aev.asInt IntKind.i64 z2 fun b => cellAt z 2 fun z3 => Aev.asInt IntKind.i64 z3 fun c => cellAt z 3 fun z4 => Aev.asInt IntKind.i64 z4 fun d => cellAt z 4 fun z5 => asStr z5 fun s => cellAt z 5 fun z6 => asStr z6 fun t => cellAt z 6 fun z7 => asStr z7 fun u => cellAt z 7 fun z8 => asSl z8 fun l => Sp.ref10_Show (g + 1) a b c d s t u l γ G else none) (fun G => sign_elem h.n hn1 hn2 G) (fun G => (elem1 _).trans (s1 _ G))
  by_cases h4 : h.k = 4
  · have e : textE h ks = if h.n = 1 then [67, 79, 85, 78, 84, 40, 42, 41] else wordsL.getD h.n.toNat [] ++ [40] ++ ks.texts.getD 0 [] ++ [41] := by unfold textE textH; rw [if_neg h1, if_neg h3, if_pos h4]
    rw [e, decide_eq_false h3, decide_eq_true h4, decide_eq_false (show ¬ h.k = 2 by omega)]
    simp only [cond_true, cond_false]
    rcases may_agg h4 hm with ⟨hlen, hn⟩ | ⟨hlen, hn1, hn2⟩
    · rw [hn]
      exact ⟨fun γ K => rfl, fun γ K => rfl⟩
    · obtain ⟨h0, k0, rfl⟩ := len_one hlen
      obtain ⟨⟨ih1, ih2⟩, _⟩ := ih
      simp only [Fo.deep] at hf
      have t0 := ih1 (g + 1) (by omega)
      have s0 := ih2 (g + 1) (by omega)
      have e0 : (Fo.cons h0 k0 .nil).texts.getD 0 [] = textE h0 k0 := rfl
      rw [e0] at htwo ⊢
      have hwl := words_len h.n.toNat
      rw [decide_eq_false (show ¬ h.n = 1 by omega), if_neg (show ¬ h.n = 1 by omega)]
      simp only [cond_false]
      refine ⟨fun γ K => ?_, fun γ K => ?_⟩
      · rw [word_cell h.n hn1 hn2]
        exact wrapW (p := wordsL.getD h.n.toNat []) (q := [40]) (r := [41]) (a := textE h0 k0) (by simp only [List.length_singleton]; omega) rfl K _ (fun G => by first | exact t0 _ G | rw [elem0, t0])
      · rw [word_elem h.n hn1 hn2]
        exact wrapW (p := wordsL.getD h.n.toNat []) (q := [40]) (r := [41]) (a := textE h0 k0) (by simp only [List.length_singleton]; omega) rfl K _ (fun G => by first | exact s0 _ G | rw [elem0, s0])
  have h2 : h.k = 2 := by rcases may_kind hm with h | h | h | h <;> omega
  have e : textE h ks = if h.tab = [] then h.col else h.tab ++ [46] ++ h.col := by unfold textE textH; rw [if_neg h1, if_neg h3, if_neg h4]
  rw [e, decide_eq_false h3, decide_eq_false h4, decide_eq_true h2]
  simp only [cond_true, cond_false]
  exact ⟨fun γ K => col_text (by omega) K, fun γ K => col_text (by omega) K⟩

theorem text_L : ∀ F : Fo, wfL F = true → F.all (fun h => !h.big) = true → F.size ≤ 1000 → TextL F
  | .nil, _, _, _ => trivial
  | .cons h ks r, hw, hb, hs => by
    simp only [wfL, Bool.and_eq_true] at hw
    simp only [Fo.all, Bool.and_eq_true, Bool.not_eq_true'] at hb
    simp only [Fo.size] at hs
    have hE := fun f hf => text_E (text_L ks hw.2.1 hb.1.2 (by omega)) h f hf hw.1 hb.1.1 hb.1.2 (by omega)
    exact ⟨⟨fun f hf => (hE f hf).1, fun f hf => (hE f hf).2⟩, text_L r hw.2.2 hb.2 (by omega)⟩

theorem text_of {h : Hd} {ks : Fo} (hs : Small h ks) (hok : okE h ks = true) : (∀ f, 2 * ks.deep + 4 ≤ f → TextAt f h ks) ∧ ∀ f, 2 * ks.deep + 4 ≤ f → ShowAt f h ks := by
  unfold okE at hok
  rw [Bool.and_eq_true] at hok
  have hw := wf_good _ _ _ hok.1
  simp only [wfL, Bool.and_eq_true] at hw
  have hz := hs.size
  have hE := fun f hf => text_E (text_L ks hw.2.1 hs.all (by omega)) h f hf hw.1 hs.big hs.all (by omega)
  exact ⟨fun f hf => (hE f hf).1, fun f hf => (hE f hf).2⟩

theorem Show_eq {h : Hd} {ks : Fo} (hs : Small h ks) (γ : Type) (K : ByteArray → Option γ) : Sp.expr_Show h.k h.n h.vk h.vn (mk h.vs) (mk h.tab) (mk h.col) ks.enc γ K = K (mk (cond (okE h ks) (textE h ks) [])) := by
  unfold Sp.expr_Show Sp.B_expr_Show
  rw [Check_eq hs]
  have hd := hs.deep
  cases hok : okE h ks with
  | false => rfl
  | true =>
    show Sp.expr_text fuel h.k h.n h.vk h.vn (mk h.vs) (mk h.tab) (mk h.col) ks.enc γ (fun z => K z) = _
    exact (text_of hs hok).1 fuel (by unfold fuel; omega) γ _
theorem ref_Show_eq {h : Hd} {ks : Fo} (hs : Small h ks) (hok : okE h ks = true) (γ : Type) (K : ByteArray → Option γ) : Sp.ref10_Show fuel h.k h.n h.vk h.vn (mk h.vs) (mk h.tab) (mk h.col) ks.enc γ K = K (mk (textE h ks)) := by
  have hd := hs.deep
  exact (text_of hs hok).2 fuel (by unfold fuel; omega) γ K

end Go.Proofs.YthbieolladlihaaGreatDoor
