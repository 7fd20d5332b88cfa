/- CalcSafe: its plain law. -/
import Derived.Test.YtebfhpjnbmdcoaaDoorKX
import Derived.Test.YtebfhpjnbmdcoaaDoorKL
set_option linter.unusedVariables false
set_option linter.unusedSimpArgs false
namespace Go.Proofs.YtebfhpjnbmdcoaaDoor
open Go Go.Aev Go.RowKit Go.Sort

theorem nextM {i : Nat} (h : i < 9223372036854775807) : IntKind.wrap .i64 ((i : Int) + 1) = ((i + 1 : Nat) : Int) := by rw [wrap_i64 (by omega)]; omega
theorem ref_check_loop (l : List Vl) (hl : l.length ≤ 9223372036854775807) (γ : Type) (K : Bool → Option γ) : ∀ (d i n : Nat), l.length = i + d → d < n →
    Sp.ref02_Check_L0 n (l.map Vl.enc) false (i : Int) γ
      (fun z3 z4 z5 => bif Ex.isExit z3 0 then K (decide (Int.ofNat l.length ≤ 32)) else bif Ex.isRet z3 then K z4 else none) = K ((l.drop i).all Vl.ok && decide (Int.ofNat l.length ≤ 32)) := by
  intro d
  induction d with
  | zero =>
    intro i n hi hn
    obtain ⟨n, rfl⟩ : ∃ k, n = k + 1 := ⟨n - 1, by omega⟩
    rw [Sp.ref02_Check_L0]
    unfold Sp.B_ref02_Check_L0
    rw [List.length_map, decide_eq_false (show ¬ (i : Int) < Int.ofNat l.length by simp only [Int.ofNat_eq_natCast]; omega), List.drop_eq_nil_of_le (by omega)]
    rfl
  | succ d ih =>
    intro i n hi hn
    obtain ⟨n, rfl⟩ : ∃ k, n = k + 1 := ⟨n - 1, by omega⟩
    obtain ⟨c, hcc, hdc⟩ := dropv_cons (show i < l.length by omega)
    rw [Sp.ref02_Check_L0]
    unfold Sp.B_ref02_Check_L0
    rw [List.length_map, decide_eq_true (show (i : Int) < Int.ofNat l.length by simp only [Int.ofNat_eq_natCast]; omega), cond_true, elemAt_enc hcc, vl_cells, ref01_Check_eq, hdc, List.all_cons, nextM (by omega), ih (i + 1) n (by omega) (by omega)]
    show (bif !c.ok then _ else _) = _
    cases c.ok <;> rfl
/-- may a row be? -/
def okR (l : List Vl) : Bool := l.all Vl.ok && decide (l.length ≤ 32)
theorem ref02_Check_eq (l : List Vl) (hl : l.length ≤ 9223372036854775807) (γ : Type) (K : Bool → Option γ) : Sp.ref02_Check (l.map Vl.enc) γ K = K (okR l) := by
  unfold Sp.ref02_Check Sp.B_ref02_Check okR
  rw [List.length_map]
  refine (ref_check_loop l hl γ K l.length 0 fuel (by omega) (by unfold fuel; omega)).trans ?_
  rw [List.drop_zero, show decide (Int.ofNat l.length ≤ 32) = decide (l.length ≤ 32) from decide_eq_decide.2 (by simp only [Int.ofNat_eq_natCast]; omega)]

theorem Eval_ex {r : List Vl} (hr0 : r.length ≤ 4611686018427387904) (hall : r.all Vl.ok = true) {h : Hd} {ks : Fo} (hs : Small h ks) : ∃ (v : Vl) (f : Int), (f = 0 → v.ok = true) ∧ (okE h ks = true → risk h ks = false → f = 0) ∧ ∀ (γ : Type) (K : Int → Int → ByteArray → Int → Option γ), Sp.calc_Eval h.k h.n h.vk h.vn (mk h.vs) (mk h.tab) (mk h.col) ks.enc (r.map Vl.enc) γ K = K v.k v.n v.s f := by
  unfold Sp.calc_Eval Sp.B_calc_Eval
  by_cases h0 : mayI h ks = 0
  · obtain ⟨v, is, v1, v2, v3⟩ := ev_of hr0 (⟨hs, mayI_ok h0⟩ : PG h ks)
    have v3' := v3
    unfold EvIs at v3'
    cases is with
    | true => exact ⟨v, 0, fun _ => v1 rfl hall, fun _ _ => rfl, fun γ K => by rw [cmay_eq hs, decide_eq_true h0, Bool.not_true, cond_false, v3']; rfl⟩
    | false => exact ⟨⟨0, 0, bs []⟩, 160, fun h => (by cases h), fun _ h => (by have := v2 h; cases this), fun γ K => by rw [cmay_eq hs, decide_eq_true h0, Bool.not_true, cond_false, v3']; rfl⟩
  · exact ⟨⟨0, 0, bs []⟩, mayI h ks, fun h => absurd h h0, fun h1 h2 => noRisk_may hs h1 h2, fun γ K => by rw [cmay_eq hs, decide_eq_false h0]; rfl⟩

theorem hol_safe {r : List Vl} (hr0 : r.length ≤ 4611686018427387904) : ∀ l : List (List Dat), (∀ e ∈ l, ∃ h ks, e = encE h ks ∧ PG h ks ∧ risk h ks = false) → (hol r l).2 = 0
  | [], _ => rfl
  | e :: l, hl => by
    obtain ⟨h, ks, rfl, hp, hr⟩ := hl e (List.mem_cons_self ..)
    obtain ⟨v, is, _, v2, v3⟩ := ev_of hr0 hp
    have ih := hol_safe hr0 l fun e he => hl e (List.mem_cons_of_mem _ he)
    rw [hol, evD_of v3]
    rw [v2 hr]
    show (cond true (cond (decide (tru v = 1)) (hol r l) (false, 0)) (false, 160)).2 = 0
    rw [cond_true]
    cases decide (tru v = 1) with
    | true => exact ih
    | false => rfl
theorem holds_safe {r : List Vl} (hr0 : r.length ≤ 4611686018427387904) {h : Hd} {ks : Fo} (hs : Small h ks) (hok : okE h ks = true) (hr : risk h ks = false) : (holdsE r h ks).2 = 0 := by
  unfold holdsE
  rw [decide_eq_true (noRisk_may hs hok hr), cond_true]
  refine hol_safe hr0 _ fun e he => parts_safe ⟨hs, hok⟩ hr e ?_
  rcases List.mem_append.1 he with he | he <;> exact (List.mem_filter.1 he).1

theorem safes (h : Hd) (ks : Fo) (r : List Vl) (hrl : r.length ≤ 9223372036854775807) (γ : Type) (K : Bool → Option γ) : Sp.law16_CalcSafe h.k h.n h.vk h.vn (mk h.vs) (mk h.tab) (mk h.col) ks.enc (r.map Vl.enc) γ K = K true := by
  unfold Sp.law16_CalcSafe Sp.B_law16_CalcSafe
  rw [Large_eq, lives_eq]
  cases hl : large h ks with
  | true => rfl
  | false =>
    have hs := small_of hl
    rw [cond_false, ref02_Check_eq r hrl]
    cases hok : okR r with
    | false => rfl
    | true =>
      unfold okR at hok
      rw [Bool.and_eq_true] at hok
      have hlen := of_decide_eq_true hok.2
      have hr0 : r.length ≤ 4611686018427387904 := by omega
      obtain ⟨v, f, e1, e2, e3⟩ := Eval_ex hr0 hok.1 hs
      have h2 := holds_safe (r := r) hr0 hs
      rw [Bool.not_true, cond_false, e3, Holds_eq hr0 hs, lives_eq, cond_true, Errs_eq hs]
      by_cases hf : f = 0
      · rw [decide_eq_true hf, Bool.not_true, cond_false, ref01_Check_eq, show V.ok v.k v.n v.s = true from e1 hf, cond_true]
        cases ho : okE h ks with
        | false => rfl
        | true =>
        cases hk : risk h ks with
        | true => rfl
        | false =>
          rw [h2 ho hk]
          rfl
      · rw [decide_eq_false hf]
        cases ho : okE h ks with
        | false => rfl
        | true =>
        cases hk : risk h ks with
        | true => rfl
        | false => exact absurd (e2 ho hk) hf

end Go.Proofs.YtebfhpjnbmdcoaaDoor
