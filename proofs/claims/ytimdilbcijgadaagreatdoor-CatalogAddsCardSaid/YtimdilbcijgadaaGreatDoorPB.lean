/- Names: the program's are the reference's. -/
import Derived.Test.YtimdilbcijgadaaGreatDoorPA
set_option linter.unusedVariables false
set_option linter.unusedSimpArgs false
namespace Go.Proofs.YtimdilbcijgadaaGreatDoor
open Go Go.Aev Go.RowKit Go.Sort
theorem nextI {i : Nat} (h : i < 9223372036854775807) : IntKind.wrap .i64 ((i : Int) + 1) = ((i + 1 : Nat) : Int) := by rw [wrap_i64 (by omega)]; omega


def nameOk (s : List UInt8) : Bool := match s with
  | [] => false
  | c :: _ => letter c && (s.all isW && (decide (s.length ≤ 24) && !decide (s ∈ keyWords)))

theorem runN_all : ∀ l : List UInt8, (l.take (runN l) = l) ↔ l.all isW = true
  | [] => by simp [runN]
  | c :: l => by
    have ih := runN_all l
    unfold runN at ih ⊢
    rw [List.takeWhile_cons]
    cases hc : isW c with
    | true => simp [hc]; simpa using ih
    | false => simp [hc]

theorem lex_Name_eq (s : List UInt8) (hs : s.length ≤ 9223372036854775807) (γ : Type) (K : Bool → Option γ) : Sp.lex_Name (mk s) γ K = K (nameOk s) := by
  unfold Sp.lex_Name Sp.B_lex_Name nameOk
  cases s with
  | nil => rfl
  | cons c r =>
    rw [decide_eq_false (show ¬ mk (c :: r) = bs [] by rw [bs_mk, mk_inj]; simp), cond_false]
    have hb : byteAt (mk (c :: r)) 0 (fun z3 => Sp.lex_letter (Int.ofNat (BitVec.toFin (UInt8.toBitVec z3)).1) γ fun z4 => bif !z4 then K false else Sp.lex_scanner_run (mk (c :: r)) 0 γ fun z5 z6 z7 => bif decide (z5 = mk (c :: r)) then bif decide (Int.ofNat (ByteArray.size (mk (c :: r))) ≤ 24) then Sp.lex_Key (mk (c :: r)) γ fun z8 => K !z8 else K false else K false) = _ :=
      byteAt_some (l := c :: r) (i := 0) rfl _
    refine hb.trans ?_
    rw [letter_eq]
    show (bif !letter c then K false else _) = K (letter c && _)
    cases letter c with
    | false => rfl
    | true =>
      simp only [Bool.not_true, cond_false, Bool.true_and]
      have hr := run_eq (c :: r) 0 (by simp) hs γ (fun z5 z6 z7 => bif decide (z5 = mk (c :: r)) then bif decide (Int.ofNat (ByteArray.size (mk (c :: r))) ≤ 24) then Sp.lex_Key (mk (c :: r)) γ fun z8 => K !z8 else K false else K false)
      refine hr.trans ?_
      rw [List.drop_zero]
      by_cases hall : (c :: r).all isW = true
      · rw [decide_eq_true (show mk ((c :: r).take (runN (c :: r))) = mk (c :: r) by rw [(runN_all _).2 hall]), cond_true, hall, Bool.true_and, size_mk]
        by_cases h24 : (c :: r).length ≤ 24
        · rw [decide_eq_true (show Int.ofNat (c :: r).length ≤ 24 by simp only [Int.ofNat_eq_natCast]; omega), cond_true, key_eq, decide_eq_true h24, Bool.true_and]
        · rw [decide_eq_false (show ¬ Int.ofNat (c :: r).length ≤ 24 by simp only [Int.ofNat_eq_natCast]; omega), cond_false, decide_eq_false h24, Bool.false_and]
      · rw [decide_eq_false (show ¬ mk ((c :: r).take (runN (c :: r))) = mk (c :: r) by rw [mk_inj, runN_all]; exact hall), cond_false, Bool.eq_false_iff.2 hall, Bool.false_and]

def refLetter (v : Int) : Bool := (decide (97 ≤ v) && decide (v ≤ 122)) || ((decide (65 ≤ v) && decide (v ≤ 90)) || decide (v = 95))
theorem ref09_letter_eq (v : Int) (γ : Type) (K : Bool → Option γ) : Sp.ref09_letter v γ K = K (refLetter v) := by
  unfold Sp.ref09_letter Sp.B_ref09_letter refLetter
  cases decide (97 ≤ v) <;> cases decide (v ≤ 122) <;> cases decide (65 ≤ v) <;> cases decide (v ≤ 90) <;> rfl
theorem letter_same (c : UInt8) : refLetter (ci c) = letter c := by
  have h : ((List.range 256).all fun n => refLetter (n : Int) == letterI (n : Int)) = true := by kernel_rfl
  have h1 := List.all_eq_true.1 h c.toNat (List.mem_range.2 c.toNat_lt)
  have h2 : refLetter ((c.toNat : Nat) : Int) = letterI ((c.toNat : Nat) : Int) := by simpa using h1
  exact h2
theorem ref09_digit_eq (v : Int) (γ : Type) (K : Bool → Option γ) : Sp.ref09_digit v γ K = K (digitI v) := by
  unfold Sp.ref09_digit Sp.B_ref09_digit digitI
  cases decide (48 ≤ v) <;> simp

theorem ref_name_loop (l : List UInt8) (hl : l.length ≤ 9223372036854775807) (v : Bool) (γ : Type) (K : Bool → Option γ) : ∀ (d i n : Nat), l.length = i + d → d < n →
    Sp.ref09_Name_L0 n (mk l) v (i : Int) γ (fun z6 z7 z8 => bif Ex.isExit z6 0 then K true else bif Ex.isRet z6 then K z7 else none) = K ((l.drop i).all isW) := by
  intro d
  induction d with
  | zero =>
    intro i n hi hn
    obtain ⟨n, rfl⟩ : ∃ k, n = k + 1 := ⟨n - 1, by omega⟩
    unfold Sp.ref09_Name_L0 Sp.B_ref09_Name_L0
    rw [size_mk, decide_eq_false (show ¬ (i : Int) < Int.ofNat l.length by simp only [Int.ofNat_eq_natCast]; omega), cond_false, List.drop_eq_nil_of_le (by omega)]
    rfl
  | succ d ih =>
    intro i n hi hn
    obtain ⟨n, rfl⟩ : ∃ k, n = k + 1 := ⟨n - 1, by omega⟩
    obtain ⟨c, hc, hd⟩ := drop_cons (l := l) (i := i) (by omega)
    unfold Sp.ref09_Name_L0 Sp.B_ref09_Name_L0
    rw [size_mk, decide_eq_true (show (i : Int) < Int.ofNat l.length by simp only [Int.ofNat_eq_natCast]; omega), cond_true, byteAt_some hc, ref09_letter_eq, nextI (by omega), hd, List.all_cons]
    have h1 : refLetter (ci c) = letter c := letter_same c
    rw [show Int.ofNat (BitVec.toFin (UInt8.toBitVec c)).1 = ci c from rfl, h1]
    show (bif !letter c then _ else _) = K ((letter c || digit c) && _)
    cases letter c with
    | true => exact ih (i + 1) n (by omega) (by omega)
    | false =>
      simp only [Bool.not_false, cond_true, Bool.false_or]
      rw [byteAt_some hc, ref09_digit_eq]
      show (bif !digit c then _ else _) = K (digit c && _)
      cases digit c with
      | true => exact ih (i + 1) n (by omega) (by omega)
      | false => rfl

theorem ref_keys_eq (γ : Type) (K : List (List Dat) → Option γ) : Sp.ref09_Keys γ K = K (keyWords.map fun x => [.str (mk x)]) := by kernel_rfl

theorem ref_key_loop (ws : List (List UInt8)) (w : List UInt8) (hl : ws.length ≤ 9223372036854775807) (v : Bool) (γ : Type) (K : Bool → Option γ) : ∀ (d i n : Nat), ws.length = i + d → d < n →
    Sp.ref09_Key_L0 n (mk w) (ws.map fun x => [.str (mk x)]) v (i : Int) γ (fun z4 z5 z6 => bif Ex.isExit z4 0 then K false else bif Ex.isRet z4 then K z5 else none) = K (decide (w ∈ ws.drop i)) := by
  intro d
  induction d with
  | zero =>
    intro i n hi hn
    obtain ⟨n, rfl⟩ : ∃ k, n = k + 1 := ⟨n - 1, by omega⟩
    unfold Sp.ref09_Key_L0 Sp.B_ref09_Key_L0
    rw [List.length_map, decide_eq_false (show ¬ (i : Int) < Int.ofNat ws.length by simp only [Int.ofNat_eq_natCast]; omega), cond_false, List.drop_eq_nil_of_le (by omega), decide_eq_false (by simp)]
    rfl
  | succ d ih =>
    intro i n hi hn
    obtain ⟨n, rfl⟩ : ∃ k, n = k + 1 := ⟨n - 1, by omega⟩
    have hlt : i < ws.length := by omega
    have hd : ws.drop i = ws[i] :: ws.drop (i + 1) := List.drop_eq_getElem_cons hlt
    have he : (ws.map fun x => ([.str (mk x)] : List Dat))[i]? = some [.str (mk ws[i])] := by rw [List.getElem?_map, List.getElem?_eq_getElem hlt]; rfl
    unfold Sp.ref09_Key_L0 Sp.B_ref09_Key_L0
    rw [List.length_map, decide_eq_true (show (i : Int) < Int.ofNat ws.length by simp only [Int.ofNat_eq_natCast]; omega), cond_true, elemAt_some he, hd]
    show (bif decide (mk ws[i] = mk w) then _ else _) = _
    by_cases hx : w = ws[i]
    · rw [decide_eq_true (by rw [hx]), cond_true, decide_eq_true (by rw [hx]; exact List.mem_cons_self ..)]
      rfl
    · rw [decide_eq_false (by rw [mk_inj]; exact fun e => hx e.symm), cond_false, nextI (by omega)]
      refine (ih (i + 1) n (by omega) (by omega)).trans ?_
      congr 1
      rw [decide_eq_decide, List.mem_cons]
      exact ⟨.inr, fun h => h.resolve_left hx⟩

theorem ref_Key_eq (w : List UInt8) (γ : Type) (K : Bool → Option γ) : Sp.ref09_Key (mk w) γ K = K (decide (w ∈ keyWords)) := by
  unfold Sp.ref09_Key Sp.B_ref09_Key
  rw [ref_keys_eq]
  have := ref_key_loop keyWords w (by decide) false γ K keyWords.length 0 fuel (by omega) (by decide)
  rw [List.drop_zero] at this
  exact this

theorem ref_Name_eq (s : List UInt8) (hs : s.length ≤ 9223372036854775807) (γ : Type) (K : Bool → Option γ) : Sp.ref09_Name (mk s) γ K = K (nameOk s) := by
  unfold Sp.ref09_Name Sp.B_ref09_Name nameOk
  rw [size_mk]
  cases s with
  | nil => rfl
  | cons c r =>
    rw [decide_eq_false (show ¬ Int.ofNat (c :: r).length < 1 by simp only [Int.ofNat_eq_natCast, List.length_cons]; omega), cond_false]
    by_cases h24 : (c :: r).length ≤ 24
    · rw [decide_eq_false (show ¬ (24 : Int) < Int.ofNat (c :: r).length by simp only [Int.ofNat_eq_natCast]; omega), cond_false]
      have hb : byteAt (mk (c :: r)) 0 (fun z3 => Sp.ref09_digit (Int.ofNat (BitVec.toFin (UInt8.toBitVec z3)).1) γ fun z4 => bif z4 then K false else Sp.ref09_Key (mk (c :: r)) γ fun z5 => bif z5 then K false else Sp.ref09_Name_L0 fuel (mk (c :: r)) false 0 γ fun z6 z7 z8 => bif Ex.isExit z6 0 then K true else bif Ex.isRet z6 then K z7 else none) = _ :=
        byteAt_some (l := c :: r) (i := 0) rfl _
      refine hb.trans ?_
      rw [ref09_digit_eq]
      have hloop := ref_name_loop (c :: r) hs false γ K (c :: r).length 0 fuel (by omega) (by unfold fuel; omega)
      rw [List.drop_zero] at hloop
      show (bif digit c then K false else _) = K (letter c && ((letter c || digit c) && r.all isW && _))
      have hbody : (Sp.ref09_Key (mk (c :: r)) γ fun z5 => bif z5 then K false else Sp.ref09_Name_L0 fuel (mk (c :: r)) false ((0 : Nat) : Int) γ fun z6 z7 z8 => bif Ex.isExit z6 0 then K true else bif Ex.isRet z6 then K z7 else none) = K ((c :: r).all isW && !decide ((c :: r) ∈ keyWords)) := by
        rw [ref_Key_eq]
        cases decide ((c :: r) ∈ keyWords) with
        | true => simp
        | false => rw [cond_false, hloop, Bool.not_false, Bool.and_true]
      rw [decide_eq_true h24, Bool.true_and]
      have hxor : digit c = true → letter c = false := by
        have h : ((List.range 256).all fun n => !(digitI (n : Int)) || !(letterI (n : Int))) = true := by kernel_rfl
        have h1 := List.all_eq_true.1 h c.toNat (List.mem_range.2 c.toNat_lt)
        intro h2
        have h2 : digitI ((c.toNat : Nat) : Int) = true := h2
        rw [h2] at h1
        show letterI ((c.toNat : Nat) : Int) = false
        simpa using h1
      cases hdg : digit c with
      | true => rw [hxor hdg]; rfl
      | false =>
        rw [cond_false]
        refine hbody.trans ?_
        rw [List.all_cons]
        show K ((letter c || digit c) && r.all isW && _) = _
        rw [hdg, Bool.or_false]
        cases letter c <;> simp
    · rw [decide_eq_true (show (24 : Int) < Int.ofNat (c :: r).length by simp only [Int.ofNat_eq_natCast]; omega), cond_true, decide_eq_false h24]
      simp

end Go.Proofs.YtimdilbcijgadaaGreatDoor
