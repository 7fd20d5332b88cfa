/- Uses: the program's is the reference's. -/
import Derived.Test.YtppilomaljgkoaaGreatDoorKM
import Derived.Test.YtppilomaljgkoaaGreatDoorKP2
set_option linter.unusedVariables false
set_option linter.unusedSimpArgs false
namespace Go.Proofs.YtppilomaljgkoaaGreatDoor
open Go Go.Aev Go.RowKit Go.Sort
theorem up_ext : ∀ l l' : List Int, l.Pairwise (· < ·) → l'.Pairwise (· < ·) → (∀ x, x ∈ l ↔ x ∈ l') → l = l'
  | [], [], _, _, _ => rfl
  | [], b :: r', _, _, h => absurd ((h b).2 (List.mem_cons_self ..)) (by simp)
  | a :: r, [], _, _, h => absurd ((h a).1 (List.mem_cons_self ..)) (by simp)
  | a :: r, b :: r', h1, h2, h => by
    rw [List.pairwise_cons] at h1 h2
    have hab : a = b := by
      have ha := (h a).1 (List.mem_cons_self ..)
      have hb := (h b).2 (List.mem_cons_self ..)
      rcases List.mem_cons.1 ha with e | ha
      · exact e
      · rcases List.mem_cons.1 hb with e | hb
        · exact e.symm
        · have := h1.1 b hb
          have := h2.1 a ha
          omega
    subst hab
    rw [up_ext r r' h1.2 h2.2 fun x => ?_]
    have := h x
    simp only [List.mem_cons] at this
    constructor
    · intro hx
      have h3 := h1.1 x hx
      rcases this.1 (.inr hx) with e | e
      · omega
      · exact e
    · intro hx
      have h3 := h2.1 x hx
      rcases this.2 (.inr hx) with e | e
      · omega
      · exact e
theorem compact_up (zs : List Int) (hz : zs.Pairwise (· ≤ ·)) : ∀ m, m ≤ zs.length → (Lib.compactUpTo zs.toArray m).Pairwise (· < ·) ∧ (∀ x, x ∈ Lib.compactUpTo zs.toArray m ↔ ∃ j, j < m ∧ zs[j]? = some x) := by
  intro m
  induction m with
  | zero =>
    intro _
    refine ⟨?_, fun x => ⟨fun h => ?_, fun h => by omega⟩⟩
    · unfold Lib.compactUpTo; simp
    · unfold Lib.compactUpTo at h; simp at h
  | succ m ih =>
    intro hm
    obtain ⟨h1, h2⟩ := ih (by omega)
    have hlt : m < zs.length := by omega
    have hget : ∀ k (hk : k < zs.length), zs.toArray[k]! = zs[k] := fun k hk => by simp [hk]
    have hle : ∀ j k (hj : j < zs.length) (hk : k < zs.length), j ≤ k → zs[j] ≤ zs[k] := by
      intro j k hj hk hjk
      rcases Nat.lt_or_ge j k with h | h
      · exact List.pairwise_iff_getElem.1 hz j k hj hk h
      · have : j = k := by omega
        subst this; exact Int.le_refl _
    rw [Lib.compactUpTo_succ]
    have split : ∀ x, (∃ j, j < m + 1 ∧ zs[j]? = some x) ↔ (∃ j, j < m ∧ zs[j]? = some x) ∨ zs[m] = x := by
      intro x
      constructor
      · rintro ⟨j, hj, he⟩
        rcases Nat.lt_or_ge j m with h | h
        · exact .inl ⟨j, h, he⟩
        · have : j = m := by omega
          subst this
          rw [List.getElem?_eq_getElem hlt] at he
          exact .inr (Option.some.inj he)
      · rintro (⟨j, hj, he⟩ | he)
        · exact ⟨j, by omega, he⟩
        · exact ⟨m, by omega, by rw [List.getElem?_eq_getElem hlt, he]⟩
    by_cases hk : Lib.keeps zs.toArray m = true
    · rw [if_pos hk, hget m hlt]
      refine ⟨?_, fun x => ?_⟩
      · rw [List.pairwise_append]
        refine ⟨h1, List.pairwise_singleton .., fun a ha b hb => ?_⟩
        rw [List.mem_singleton] at hb
        subst hb
        obtain ⟨j, hj, he⟩ := (h2 a).1 ha
        rw [List.getElem?_eq_getElem (by omega)] at he
        obtain rfl := Option.some.inj he
        have hne : zs[m] ≠ zs[m - 1] := by
          unfold Lib.keeps at hk
          rw [decide_eq_true_eq] at hk
          rcases hk with h | h
          · omega
          · rw [hget m hlt, hget (m - 1) (by omega)] at h; exact h
        have h3 := hle j (m - 1) (by omega) (by omega) (by omega)
        have h4 := hle (m - 1) m (by omega) hlt (by omega)
        omega
      · rw [List.mem_append, h2, List.mem_singleton, split]
        constructor
        · rintro (h | h)
          · exact .inl h
          · exact .inr h.symm
        · rintro (h | h)
          · exact .inl h
          · exact .inr h.symm
    · rw [if_neg hk, List.append_nil]
      refine ⟨h1, fun x => ?_⟩
      rw [h2, split]
      refine ⟨.inl, fun h => h.elim id fun h => ?_⟩
      unfold Lib.keeps at hk
      rw [decide_eq_true_eq, not_or, Decidable.not_not] at hk
      rw [hget m hlt, hget (m - 1) (by omega)] at hk
      exact ⟨m - 1, by omega, by rw [List.getElem?_eq_getElem (by omega), ← hk.2, h]⟩
theorem uses_up (ns : List Int) : (usesOf ns).Pairwise (· < ·) ∧ ∀ x, x ∈ usesOf ns ↔ x ∈ ns := by
  obtain ⟨h1, h2⟩ := compact_up (sortUp ns) (sortUp_up ns) (sortUp ns).length (Nat.le_refl _)
  refine ⟨h1, fun x => (h2 x).trans ?_⟩
  rw [← (sortUp_perm ns).mem_iff, List.mem_iff_getElem?]
  exact ⟨fun ⟨j, _, h⟩ => ⟨j, h⟩, fun ⟨j, h⟩ => ⟨j, by rw [List.getElem?_eq_some_iff] at h; exact h.1, h⟩⟩
def ixs (h : Hd) (ks : Fo) : List Int := (colsE h ks).map fun x => x.1.n
theorem uses_loop (L : List (Hd × Fo)) (hL : L.length ≤ 100000) (K : Ex → List (List Dat) → Int → Option (List (List Dat))) : ∀ (d i n : Nat) (out : List Int), L.length = i + d → d < n → out.length + d ≤ 100000 →
    Y.Sp.types_Uses_L0 n (L.map fun x => encE x.1 x.2) (Int.ofNat L.length) (out.map iEnc) (i : Int) (List (List Dat)) K = K (.exit 0) ((out ++ (L.drop i).map fun x => x.1.n).map iEnc) (L.length : Int) := by
  intro d
  induction d with
  | zero =>
    intro i n out hi hn ho
    obtain ⟨n, rfl⟩ : ∃ m, n = m + 1 := ⟨n - 1, by omega⟩
    have : L.drop i = [] := List.drop_eq_nil_of_le (by omega)
    rw [this, Y.Sp.types_Uses_L0]
    unfold Y.Sp.B_types_Uses_L0
    rw [sized_I, decide_eq_false (by simp only [Int.ofNat_eq_natCast]; omega), List.map_nil, List.append_nil, show (i : Int) = (L.length : Int) by omega]
    rfl
  | succ d ih =>
    intro i n out hi hn ho
    obtain ⟨n, rfl⟩ : ∃ m, n = m + 1 := ⟨n - 1, by omega⟩
    have hlt : i < L.length := by omega
    have hd : L.drop i = L[i] :: L.drop (i + 1) := List.drop_eq_getElem_cons hlt
    have he : (L.map fun x => encE x.1 x.2)[i]? = some (encE L[i].1 L[i].2) := by rw [List.getElem?_map, List.getElem?_eq_getElem hlt]; rfl
    rw [Y.Sp.types_Uses_L0]
    unfold Y.Sp.B_types_Uses_L0
    rw [sized_I, decide_eq_true (by simp only [Int.ofNat_eq_natCast]; omega), cond_true, cond_true, elem_at he, nextI (by omega), List.length_map, decide_eq_true (show (out.length + 1) * 9 ≤ 70368744177664 by omega)]
    simp only [Bool.and_self, cond_true]
    rw [map_snoc, ih (i + 1) n (out ++ [L[i].1.n]) (by omega) (by omega) (by rw [List.length_append, List.length_singleton]; omega), hd, List.map_cons, List.append_assoc]
    rfl
theorem ints_enc : ∀ l : List Int, intsOf (l.map iEnc) = some l
  | [] => rfl
  | x :: l => by
    show (intsOf (l.map iEnc)).map _ = _
    rw [ints_enc l]; rfl
theorem Uses_eq {h : Hd} {ks : Fo} (hs : Small h ks) (γ : Type) (K : List (List Dat) → Option γ) : Sp.types_Uses h.k h.n h.vk h.vn (mk h.vs) (mk h.tab) (mk h.col) ks.enc γ K = K (cond (okE h ks) ((usesOf (ixs h ks)).map iEnc) []) := by
  have h1 := hs.size
  have hlen := colsE_len h ks
  have hr : usesRes h.k h.n h.vk h.vn (mk h.vs) (mk h.tab) (mk h.col) ks.enc = some (cond (okE h ks) ((usesOf (ixs h ks)).map iEnc) []) := by
    unfold usesRes Y.Sp.types_Uses Y.Sp.B_types_Uses Y.Sp.expr_Columns Y.Sp.B_expr_Columns
    rw [kinds_eq hs]
    cases okE h ks with
    | false => rfl
    | true =>
      rw [cond_true, cond_true, cols_enc]
      dsimp only
      rw [List.length_map]
      have := uses_loop (colsE h ks) (by omega) (fun z11 z12 z13 => bif sized z12 1 then bif Ex.isExit z11 0 then some z12 else bif Ex.isRet z11 then none else none else none) (colsE h ks).length 0 fuel [] (by omega) (by unfold fuel; omega) (by simp; omega)
      rw [List.map_nil, Int.ofNat_eq_natCast] at this
      rw [show ((0 : Nat) : Int) = 0 from rfl] at this
      simp only [Int.ofNat_eq_natCast]
      rw [this, List.drop_zero, List.nil_append, sized_I]
      show (some ((ixs h ks).map iEnc)).bind _ = _
      rw [Option.bind_some, ints_enc, Option.bind_some, decide_eq_true (show (ixs h ks).length ≤ 1000000 by unfold ixs; rw [List.length_map]; omega)]
      rfl
  unfold Sp.types_Uses
  rw [hr]
  rfl
def isIn (n : Int) (L : List (Hd × Fo)) : Bool := L.any fun x => decide (x.1.n = n)
theorem ref_uses2 (L : List (Hd × Fo)) (hL : L.length ≤ 16777216) (v : Int) (out : List Int) (ho : out.length ≤ 100000) (γ : Type) (K : Ex → List (List Dat) → Int → Option γ) : ∀ (d i n : Nat), L.length = i + d → d < n →
    ∃ j, Sp.ref14_Uses_L2 n (L.map fun x => encE x.1 x.2) v (out.map iEnc) (i : Int) γ K = K (.exit 2) ((cond (isIn v (L.drop i)) (out ++ [v]) out).map iEnc) j := by
  intro d
  induction d with
  | zero =>
    intro i n hi hn
    obtain ⟨n, rfl⟩ : ∃ m, n = m + 1 := ⟨n - 1, by omega⟩
    have : L.drop i = [] := List.drop_eq_nil_of_le (by omega)
    refine ⟨(i : Int), ?_⟩
    rw [this, Sp.ref14_Uses_L2]
    unfold Sp.B_ref14_Uses_L2
    rw [sized_I, List.length_map, decide_eq_false (by simp only [Int.ofNat_eq_natCast]; omega)]
    rfl
  | succ d ih =>
    intro i n hi hn
    obtain ⟨n, rfl⟩ : ∃ m, n = m + 1 := ⟨n - 1, by omega⟩
    have hlt : i < L.length := by omega
    have hd : L.drop i = L[i] :: L.drop (i + 1) := List.drop_eq_getElem_cons hlt
    obtain ⟨j, hj⟩ := ih (i + 1) n (by omega) (by omega)
    unfold isIn at hj ⊢
    rw [Sp.ref14_Uses_L2]
    unfold Sp.B_ref14_Uses_L2
    rw [sized_I, List.length_map, decide_eq_true (by simp only [Int.ofNat_eq_natCast]; omega), cond_true, cond_true, elem_N hlt, hd, List.any_cons, nextI (by omega)]
    by_cases hx : L[i].1.n = v
    · refine ⟨(i : Int), ?_⟩
      rw [decide_eq_true hx, cond_true, List.length_map, decide_eq_true (show (out.length + 1) * 9 ≤ 70368744177664 by omega)]
      simp only [Bool.and_self, cond_true, Bool.true_or]
      rw [map_snoc]
    · refine ⟨j, ?_⟩
      rw [decide_eq_false hx, cond_false, Bool.false_or]
      exact hj
theorem ref_uses0 (L : List (Hd × Fo)) (hL : L.length ≤ 100000) (γ : Type) (K : Ex → List (List Dat) → Int → Option γ) : ∀ (d i n : Nat) (out : List Int), 32 = i + d → d < n → out.length + d ≤ 100000 →
    Sp.ref14_Uses_L0 n (L.map fun x => encE x.1 x.2) (out.map iEnc) (i : Int) γ K = K (.exit 0) ((out ++ ((List.range' i d).filter fun (n : Nat) => isIn (n : Int) L).map fun (n : Nat) => (n : Int)).map iEnc) 32 := by
  intro d
  induction d with
  | zero =>
    intro i n out hi hn ho
    obtain ⟨n, rfl⟩ : ∃ m, n = m + 1 := ⟨n - 1, by omega⟩
    obtain rfl : i = 32 := by omega
    rw [Sp.ref14_Uses_L0]
    unfold Sp.B_ref14_Uses_L0
    rw [sized_I, decide_eq_false (by omega)]
    simp
  | succ d ih =>
    intro i n out hi hn ho
    obtain ⟨n, rfl⟩ : ∃ m, n = m + 1 := ⟨n - 1, by omega⟩
    rw [Sp.ref14_Uses_L0]
    unfold Sp.B_ref14_Uses_L0
    rw [sized_I, decide_eq_true (show (i : Int) < 32 by omega), cond_true, cond_true]
    obtain ⟨j, hj⟩ := ref_uses2 L (by omega) (i : Int) out (by omega) γ (fun z5 z6 z7 => bif sized z6 1 then bif Ex.isExit z5 2 then Sp.ref14_Uses_L0 n (L.map fun x => encE x.1 x.2) z6 (IntKind.wrap IntKind.i64 ((i : Int) + 1)) γ K else bif Ex.isRet z5 then K Ex.ret z6 (i : Int) else none else none) L.length 0 fuel (by omega) (by unfold fuel; omega)
    refine hj.trans ?_
    rw [sized_I, List.drop_zero, nextI (by omega)]
    show Sp.ref14_Uses_L0 n _ _ _ γ K = _
    rw [List.range'_succ, List.filter_cons]
    cases hx : isIn (i : Int) L with
    | true =>
      rw [cond_true, ih (i + 1) n (out ++ [(i : Int)]) (by omega) (by omega) (by rw [List.length_append, List.length_singleton]; omega), if_pos rfl, List.map_cons, List.append_assoc]
      rfl
    | false =>
      rw [cond_false, ih (i + 1) n out (by omega) (by omega) (by omega), if_neg (by simp)]
theorem cols_rng {F : Fo} (hF : wfL F = true) : ∀ x ∈ colsL F, 0 ≤ x.1.n ∧ x.1.n < 32 := by
  induction F with
  | nil => intro x hx; cases hx
  | cons h ks r ih1 ih2 =>
    intro x hx
    simp only [wfL, Bool.and_eq_true] at hF
    have h1 := ih1 hF.2.1
    have h2 := ih2 hF.2.2
    unfold colsL at h1 h2 hx
    simp only [preH, List.mem_filter, List.mem_cons, List.mem_append, decide_eq_true_eq] at h1 h2 hx
    rcases hx with ⟨rfl | hx | hx, hk⟩
    · have hm := hF.1
      change h.k = 2 at hk
      show 0 ≤ h.n ∧ h.n < 32
      unfold may at hm
      rw [if_neg (by omega), if_pos hk] at hm
      simp only [Bool.and_eq_true, decide_eq_true_eq] at hm
      exact ⟨by omega, by omega⟩
    · exact h1 x ⟨hx, hk⟩
    · exact h2 x ⟨hx, hk⟩
theorem ref_Uses_eq {h : Hd} {ks : Fo} (hs : Small h ks) (γ : Type) (K : List (List Dat) → Option γ) : Sp.ref14_Uses h.k h.n h.vk h.vn (mk h.vs) (mk h.tab) (mk h.col) ks.enc γ K = K (cond (okE h ks) ((usesOf (ixs h ks)).map iEnc) []) := by
  have h1 := hs.size
  have hlen := colsE_len h ks
  unfold Sp.ref14_Uses Sp.B_ref14_Uses
  rw [ref_Check_eq hs]
  cases ho : okE h ks with
  | false => rfl
  | true =>
    rw [Bool.not_true, cond_false, cond_true, Kinds_eq hs, cols_enc]
    refine (ref_uses0 (colsE h ks) (by omega) γ _ 32 0 fuel [] (by omega) (by unfold fuel; omega) (by simp)).trans ?_
    rw [sized_I, List.nil_append]
    show K _ = K _
    congr 1
    congr 1
    have hu := uses_up (ixs h ks)
    refine (up_ext _ _ hu.1 ?_ fun x => ?_).symm
    · rw [List.pairwise_map]
      refine List.Pairwise.imp (fun h => ?_) ((List.pairwise_lt_range' (s := 0) (n := 32)).filter _)
      exact Int.ofNat_lt.2 h
    · rw [hu.2]
      have hw := ok_wf ho
      have hc : ∀ y ∈ colsE h ks, 0 ≤ y.1.n ∧ y.1.n < 32 := cols_rng (F := .cons h ks .nil) (by simp only [wfL, hw.1, hw.2, Bool.and_self])
      unfold ixs isIn
      simp only [List.mem_map, List.mem_filter, List.mem_range', List.any_eq_true, decide_eq_true_eq]
      constructor
      · rintro ⟨y, hy, rfl⟩
        have := hc y hy
        exact ⟨y.1.n.toNat, ⟨⟨y.1.n.toNat, by omega, by omega⟩, y, hy, by omega⟩, by omega⟩
      · rintro ⟨n, ⟨_, y, hy, e⟩, rfl⟩
        exact ⟨y, hy, e⟩
theorem same_loop (l : List Int) (hl : l.length ≤ 16777216) (v : Bool) (γ : Type) (K : Ex → Bool → Int → Option γ) : ∀ (d i n : Nat), l.length = i + d → d < n →
    Sp.ref07_Same_L0 n (l.map iEnc) (l.map iEnc) v (i : Int) γ K = K (.exit 0) v (l.length : Int) := by
  intro d
  induction d with
  | zero =>
    intro i n hi hn
    obtain ⟨n, rfl⟩ : ∃ m, n = m + 1 := ⟨n - 1, by omega⟩
    rw [Sp.ref07_Same_L0]
    unfold Sp.B_ref07_Same_L0
    rw [List.length_map, decide_eq_false (by simp only [Int.ofNat_eq_natCast]; omega), show (i : Int) = (l.length : Int) by omega]
    rfl
  | succ d ih =>
    intro i n hi hn
    obtain ⟨n, rfl⟩ : ∃ m, n = m + 1 := ⟨n - 1, by omega⟩
    have hlt : i < l.length := by omega
    rw [Sp.ref07_Same_L0]
    unfold Sp.B_ref07_Same_L0
    rw [List.length_map, decide_eq_true (by simp only [Int.ofNat_eq_natCast]; omega), cond_true, elem_I hlt, elem_I hlt, decide_eq_true rfl, nextI (by omega)]
    exact ih (i + 1) n (by omega) (by omega)
theorem same_I (l : List Int) (hl : l.length ≤ 1000000) (γ : Type) (K : Bool → Option γ) : Sp.ref07_Same (l.map iEnc) (l.map iEnc) γ K = K true := by
  unfold Sp.ref07_Same Sp.B_ref07_Same
  rw [decide_eq_true rfl]
  exact (same_loop l (by omega) false γ _ l.length 0 fuel (by omega) (by unfold fuel; omega)).trans rfl
end Go.Proofs.YtppilomaljgkoaaGreatDoor
