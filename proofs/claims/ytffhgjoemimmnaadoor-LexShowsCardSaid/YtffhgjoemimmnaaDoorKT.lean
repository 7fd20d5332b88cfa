/- The scanner's texts, in plain Lean. -/
import Derived.Test.YtffhgjoemimmnaaDoorK4
set_option linter.unusedVariables false
set_option linter.unusedSimpArgs false
namespace Go.Proofs.YtffhgjoemimmnaaDoor
open Go Go.Aev Go.RowKit

theorem bpush_mk (l : List UInt8) (c : UInt8) : Sp.bpush (mk l) (ci c) = mk (l ++ [c]) := by
  apply data_inj
  have : UInt8.ofNat (ci c).toNat = c := by
    show UInt8.ofNat c.toNat = c
    exact UInt8.ofNat_toNat
  simp [Sp.bpush, mk, ByteArray.push, this]

theorem ci_range (c : UInt8) : 0 ≤ ci c ∧ ci c < 256 := by
  have h1 : ci c = (c.toNat : Int) := rfl
  have := c.toNat_lt
  omega

theorem ci_39t {c : UInt8} : decide (ci c = 39) = (c == 39) := by
  have h1 : ci c = (c.toNat : Int) := rfl
  rw [Bool.eq_iff_iff]
  simp only [decide_eq_true_eq, beq_iff_eq]
  constructor
  · intro h
    apply UInt8.toNat_inj.1
    rw [h1] at h
    exact Int.ofNat.inj h
  · rintro rfl; rfl

theorem writeByte_eq (acc l : List UInt8) (c : UInt8) (i : Int) (h : acc.length + 1 ≤ 140737488355328) (γ : Type) (K : ByteArray → Int → ByteArray → Option γ) :
    Sp.strings_Builder_WriteByte (ci c) (mk l) i (mk acc) γ K = K (mk l) i (mk (acc ++ [c])) := by
  unfold Sp.strings_Builder_WriteByte
  have := ci_range c
  rw [decide_eq_true this.1, decide_eq_true this.2, decide_eq_true (show (mk acc).size + 1 ≤ 140737488355328 by rw [size_mk]; exact h), bpush_mk]
  rfl

def TextOut (l acc : List UInt8) (i : Nat) (k : Int) (n : Nat) : Prop :=
  (∃ t m, textL (l.drop i) = some (t, m) ∧ ∀ v v0 v1 v2 v3 (γ : Type) K, Sp.lex_scanner_text_L0 n v v0 v1 v2 v3 4 (mk []) 0 k (mk l) (i : Int) (mk acc) γ K =
      K Ex.ret (decide (acc.length + t.length ≤ 64)) 4 (mk (acc ++ t)) 0 k 4 (mk (acc ++ t)) 0 k (mk l) ((i + m : Nat) : Int) (mk (acc ++ t))) ∨
  (textL (l.drop i) = none ∧ ∃ acc', ∀ v v0 v1 v2 v3 (γ : Type) K, Sp.lex_scanner_text_L0 n v v0 v1 v2 v3 4 (mk []) 0 k (mk l) (i : Int) (mk acc) γ K =
      K (Ex.exit 0) v v0 v1 v2 v3 4 (mk []) 0 k (mk l) (l.length : Int) (mk acc'))

theorem text_loop (l : List UInt8) (k : Int) (hl : l.length ≤ 16777216) : ∀ (d i n : Nat) (acc : List UInt8), l.length = i + d → d < n → acc.length + d ≤ 33554432 → TextOut l acc i k n := by
  intro d
  induction d using Nat.strongRecOn with
  | ind d ih =>
    intro i n acc hi hn ha
    obtain ⟨n, rfl⟩ : ∃ m, n = m + 1 := ⟨n - 1, by omega⟩
    have hleft : ∀ (i : Int) (a : ByteArray) (γ : Type) (K : Bool → ByteArray → Int → ByteArray → Option γ), Sp.lex_scanner_left'1 (mk l) i a γ K = K (decide (i < (l.length : Int))) (mk l) i a := by
      intro i a γ K
      unfold Sp.lex_scanner_left'1 Sp.B_lex_scanner_left'1
      rw [size_mk]; rfl
    rcases Nat.eq_zero_or_pos d with h0 | hpos
    · subst h0
      right
      have hd : l.drop i = [] := List.drop_eq_nil_of_le (by omega)
      rw [hd]
      refine ⟨rfl, acc, fun v v0 v1 v2 v3 γ K => ?_⟩
      unfold Sp.lex_scanner_text_L0 Sp.B_lex_scanner_text_L0
      rw [hleft, decide_eq_false (by omega), cond_false, show (i : Int) = (l.length : Int) by omega]
    · obtain ⟨c, hc, hd⟩ := drop_cons (l := l) (i := i) (by omega)
      have hnext : IntKind.wrap .i64 ((i : Int) + 1) = ((i + 1 : Nat) : Int) := by rw [wrap_i64 (by omega)]; omega
      have hnext2 : IntKind.wrap .i64 (((i + 1 : Nat) : Int) + 1) = ((i + 2 : Nat) : Int) := by rw [wrap_i64 (by omega)]; omega
      have hbody : ∀ v v0 v1 v2 v3 (γ : Type) K, Sp.lex_scanner_text_L0 (n + 1) v v0 v1 v2 v3 4 (mk []) 0 k (mk l) (i : Int) (mk acc) γ K =
          cond (c == 39) (cond (!decide (((i + 1 : Nat) : Int) < (l.length : Int))) (K Ex.ret (decide ((acc.length : Int) ≤ 64)) 4 (mk acc) 0 k 4 (mk acc) 0 k (mk l) ((i + 1 : Nat) : Int) (mk acc))
            (byteAt (mk l) ((i + 1 : Nat) : Int) fun c' => cond (!(c' == 39)) (K Ex.ret (decide ((acc.length : Int) ≤ 64)) 4 (mk acc) 0 k 4 (mk acc) 0 k (mk l) ((i + 1 : Nat) : Int) (mk acc))
              (Sp.lex_scanner_text_L0 n v v0 v1 v2 v3 4 (mk []) 0 k (mk l) ((i + 2 : Nat) : Int) (mk (acc ++ [c])) γ K)))
            (Sp.lex_scanner_text_L0 n v v0 v1 v2 v3 4 (mk []) 0 k (mk l) ((i + 1 : Nat) : Int) (mk (acc ++ [c])) γ K) := by
        intro v v0 v1 v2 v3 γ K
        show Sp.B_lex_scanner_text_L0 (Sp.lex_scanner_text_L0 n) _ _ _ _ _ _ _ _ _ _ _ _ _ _ _ _ _ _ = _
        unfold Sp.B_lex_scanner_text_L0
        rw [hleft, decide_eq_true (show (i : Int) < (l.length : Int) by omega), cond_true, byteAt_some hc]
        show (bif decide (ci c = 39) then _ else _) = _
        rw [ci_39t]
        cases hc39 : c == 39 with
        | true =>
          rw [cond_true, cond_true, hnext, hleft]
          cases hdl : !decide (((i + 1 : Nat) : Int) < (l.length : Int)) with
          | true =>
            rw [cond_true, cond_true]
            unfold Sp.strings_Builder_String Sp.strings_Builder_Len
            show K Ex.ret (decide (Int.ofNat (mk acc).size ≤ 64)) 4 (mk acc) 0 k 4 (mk acc) 0 k (mk l) ((i + 1 : Nat) : Int) (mk acc) = _
            rw [size_mk]; rfl
          | false =>
            rw [cond_false, cond_false]
            congr 1
            funext c'
            show (bif !decide (ci c' = 39) then _ else _) = _
            rw [ci_39t]
            cases hc39' : !(c' == 39) with
            | true =>
              rw [cond_true, cond_true]
              unfold Sp.strings_Builder_String Sp.strings_Builder_Len
              show K Ex.ret (decide (Int.ofNat (mk acc).size ≤ 64)) 4 (mk acc) 0 k 4 (mk acc) 0 k (mk l) ((i + 1 : Nat) : Int) (mk acc) = _
              rw [size_mk]; rfl
            | false =>
              rw [cond_false, cond_false]
              show Sp.strings_Builder_WriteByte (ci c) _ _ _ _ _ = _
              rw [writeByte_eq acc l c _ (by omega), hnext2]
        | false =>
          rw [cond_false, cond_false]
          show Sp.strings_Builder_WriteByte (ci c) _ _ _ _ _ = _
          rw [writeByte_eq acc l c _ (by omega), hnext]
      have hlen : ∀ (m : Nat), decide (((m : Nat) : Int) ≤ 64) = decide (m ≤ 64) := fun m => by
        rw [Bool.eq_iff_iff]; simp only [decide_eq_true_eq]; omega
      have hal : (acc ++ [c]).length = acc.length + 1 := by simp
      unfold TextOut
      simp only [hbody]
      rw [hd]
      cases hc39 : c == 39 with
      | true =>
        rcases Nat.lt_or_ge (i + 1) l.length with hlt | hge
        · obtain ⟨c', hc', hd'⟩ := drop_cons (l := l) (i := i + 1) hlt
          rw [hd', decide_eq_true (show ((i + 1 : Nat) : Int) < (l.length : Int) by omega)]
          simp only [cond_true, Bool.not_true, cond_false, byteAt_some hc']
          have ht : textL (c :: c' :: l.drop (i + 1 + 1)) = cond (c' == 39) ((textL (l.drop (i + 2))).map fun p => (39 :: p.1, p.2 + 2)) (some ([], 1)) := by
            show cond (c == 39) _ _ = _
            rw [hc39, cond_true]
          rw [ht]
          cases hc39' : c' == 39 with
          | true =>
            simp only [Bool.not_true, cond_true, cond_false]
            have hcc : c = 39 := by simpa using hc39
            rcases ih (d - 2) (by omega) (i + 2) n (acc ++ [c]) (by omega) (by omega) (by rw [hal]; omega) with ⟨t, m, h1, h2⟩ | ⟨h1, acc', h2⟩
            · refine .inl ⟨39 :: t, m + 2, by rw [h1]; rfl, fun v v0 v1 v2 v3 γ K => ?_⟩
              rw [h2, hal, hcc]
              simp only [List.append_assoc, List.singleton_append, List.length_cons]
              rw [show acc.length + 1 + t.length = acc.length + (t.length + 1) by omega, show i + 2 + m = i + (m + 2) by omega]
            · exact .inr ⟨by rw [h1]; rfl, acc', fun v v0 v1 v2 v3 γ K => h2 v v0 v1 v2 v3 γ K⟩
          | false =>
            simp only [Bool.not_false, cond_true, cond_false]
            refine .inl ⟨[], 1, rfl, fun v v0 v1 v2 v3 γ K => ?_⟩
            rw [hlen, List.append_nil]
            rfl
        · have hd' : l.drop (i + 1) = [] := List.drop_eq_nil_of_le hge
          rw [hd', decide_eq_false (show ¬ ((i + 1 : Nat) : Int) < (l.length : Int) by omega)]
          simp only [cond_true, Bool.not_false]
          refine .inl ⟨[], 1, by show cond (c == 39) _ _ = _; rw [hc39]; rfl, fun v v0 v1 v2 v3 γ K => ?_⟩
          rw [hlen, List.append_nil]
          rfl
      | false =>
        simp only [cond_false]
        have ht : textL (c :: l.drop (i + 1)) = (textL (l.drop (i + 1))).map fun p => (c :: p.1, p.2 + 1) := by
          cases hx : l.drop (i + 1) with
          | nil => show cond (c == 39) _ _ = _; rw [hc39]; rfl
          | cons d r => show cond (c == 39) _ _ = _; rw [hc39]; rfl
        rw [ht]
        rcases ih (d - 1) (by omega) (i + 1) n (acc ++ [c]) (by omega) (by omega) (by rw [hal]; omega) with ⟨t, m, h1, h2⟩ | ⟨h1, acc', h2⟩
        · refine .inl ⟨c :: t, m + 1, by rw [h1]; rfl, fun v v0 v1 v2 v3 γ K => ?_⟩
          rw [h2, hal]
          simp only [List.append_assoc, List.singleton_append, List.length_cons]
          rw [show acc.length + 1 + t.length = acc.length + (t.length + 1) by omega, show i + 1 + m = i + (m + 1) by omega]
        · exact .inr ⟨by rw [h1]; rfl, acc', fun v v0 v1 v2 v3 γ K => h2 v v0 v1 v2 v3 γ K⟩

theorem text_eq (l : List UInt8) (i : Nat) (hi : i < l.length) (hl : l.length ≤ 16777216) (γ : Type) (K : Int → ByteArray → Int → Int → Bool → ByteArray → Int → Option γ) :
    Sp.lex_scanner_text (mk l) (i : Int) γ K = K 4 (textR (mk l) i).1 0 i (textR (mk l) i).2.1 (mk l) (textR (mk l) i).2.2 := by
  have hnext : IntKind.wrap .i64 ((i : Int) + 1) = ((i + 1 : Nat) : Int) := by rw [wrap_i64 (by omega)]; omega
  unfold Sp.lex_scanner_text Sp.B_lex_scanner_text
  rw [hnext]
  have htr : textR (mk l) i = match textL (l.drop (i + 1)) with
      | some (t, n) => (mk t, decide (t.length ≤ 64), ((i + 1 + n : Nat) : Int))
      | none => (mk [], false, ((mk l).size : Int)) := by
    unfold textR
    rw [data_mk]
    cases textL (l.drop (i + 1)) <;> rfl
  rcases text_loop l i hl (l.length - (i + 1)) (i + 1) fuel [] (by omega) (by unfold fuel; omega) (by simp; omega) with ⟨t, m, h1, h2⟩ | ⟨h1, acc', h2⟩
  · rw [htr, h1]
    refine (h2 _ _ _ _ _ γ _).trans ?_
    simp only [Ex.isExit, Ex.isRet, cond_true, cond_false, List.nil_append, List.length_nil, Nat.zero_add]
  · rw [htr, h1]
    refine (h2 _ _ _ _ _ γ _).trans ?_
    simp only [Ex.isExit, beq_self_eq_true, cond_true, size_mk]
end Go.Proofs.YtffhgjoemimmnaaDoor
