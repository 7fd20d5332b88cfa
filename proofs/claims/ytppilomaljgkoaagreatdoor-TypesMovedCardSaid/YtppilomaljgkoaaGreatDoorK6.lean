/- How an expression is looked at. -/
import Derived.Test.YtppilomaljgkoaaGreatDoorK5
set_option linter.unusedVariables false
set_option linter.unusedSimpArgs false
namespace Go.Proofs.YtppilomaljgkoaaGreatDoor
open Go Go.Aev Go.RowKit Go.Sort
def goodL : Fo → Nat → Bool → Bool
  | .nil, _, _ => true
  | .cons h ks r, d, a => (decide (d ≤ 32) && (may h ks.len && (!(a && decide (h.k = 4)) && goodL ks (d + 1) (a || decide (h.k = 4))))) && goodL r d a
def agI (a : Bool) : Int := cond a 1 0
def KK {γ : Type} (K : Int → Int → Bool → Option γ) : Ex → Int → Int → Int → Bool → Option γ := fun z15 z16 z17 z18 z19 => bif Ex.isExit z15 0 then K z17 z18 z19 else bif Ex.isRet z15 then K z17 z18 z19 else none
theorem look_bad {F T : Fo} {i : Nat} (hd : T.enc.drop i = F.enc) (f q : Nat) (deep aggs b0 b1 : Int) (γ : Type) (K : Int → Int → Bool → Option γ) :
    Sp.expr_scan_look_L0 (Sp.expr_scan_look f) (q + 1) deep aggs T.enc (Int.ofNat T.enc.length) (i : Int) b0 b1 true γ (KK K) = K b0 b1 true := by
  rw [Sp.expr_scan_look_L0]
  unfold Sp.B_expr_scan_look_L0
  cases F with
  | nil =>
    have hl := drop_nil hd
    rw [decide_eq_false (show ¬ (i : Int) < Int.ofNat T.enc.length by simp only [Int.ofNat_eq_natCast]; omega), cond_false]
    rfl
  | cons h ks r =>
    obtain ⟨hlt, _, _⟩ := drop_enc hd
    rw [decide_eq_true (show (i : Int) < Int.ofNat T.enc.length by simp only [Int.ofNat_eq_natCast]; omega), cond_true, elem_enc hd]
    rfl
def LookE (f : Nat) (h : Hd) (ks : Fo) (e : Nat) (a : Bool) (n dd : Nat) : Prop := ∀ (γ : Type) (K : Int → Int → Bool → Option γ),
  (goodL (.cons h ks .nil) e a = true ∧ n + 1 + ks.size ≤ 512 → Sp.expr_scan_look f h.k h.n h.vk h.vn (mk h.vs) (mk h.tab) (mk h.col) ks.enc (e : Int) (agI a) (n : Int) (dd : Int) false γ K = K ((n + 1 + ks.size : Nat) : Int) ((max dd (e + ks.deep) : Nat) : Int) false) ∧
  (¬ (goodL (.cons h ks .nil) e a = true ∧ n + 1 + ks.size ≤ 512) → ∃ m d : Int, Sp.expr_scan_look f h.k h.n h.vk h.vn (mk h.vs) (mk h.tab) (mk h.col) ks.enc (e : Int) (agI a) (n : Int) (dd : Int) false γ K = K m d true)
def LookL (F : Fo) : Prop := ∀ (T : Fo) (i deep : Nat) (a : Bool) (n dd f q : Nat) (γ : Type) (K : Int → Int → Bool → Option γ),
  T.enc.drop i = F.enc → F.all (fun h => !h.big) = true → i ≤ n → n ≤ 512 → deep ≤ dd → deep ≤ 32 → 600 ≤ q + n → 40 ≤ f + deep + 1 →
  (goodL F (deep + 1) a = true ∧ n + F.size ≤ 512 → Sp.expr_scan_look_L0 (Sp.expr_scan_look f) q (deep : Int) (agI a) T.enc (Int.ofNat T.enc.length) (i : Int) (n : Int) (dd : Int) false γ (KK K) = K ((n + F.size : Nat) : Int) ((max dd (deep + F.deep) : Nat) : Int) false) ∧
  (¬ (goodL F (deep + 1) a = true ∧ n + F.size ≤ 512) → ∃ m d : Int, Sp.expr_scan_look_L0 (Sp.expr_scan_look f) q (deep : Int) (agI a) T.enc (Int.ofNat T.enc.length) (i : Int) (n : Int) (dd : Int) false γ (KK K) = K m d true)
theorem look_E {ks : Fo} (ih : LookL ks) (h : Hd) (f e n dd : Nat) (a : Bool) (hb : h.big = false) (hbs : ks.all (fun h => !h.big) = true) (hn : n ≤ 512) (he : e ≤ 33) (hf : 40 ≤ f + e) : LookE f h ks e a n dd := by
  intro γ K
  obtain ⟨f, rfl⟩ : ∃ g, f = g + 1 := ⟨f - 1, by omega⟩
  rw [Sp.expr_scan_look]
  have hq : fuel = (fuel - 1) + 1 := by decide
  have bad : ∀ aggs b0 b1 : Int, Sp.expr_scan_look_L0 (Sp.expr_scan_look f) fuel (e : Int) aggs ks.enc (Int.ofNat ks.enc.length) 0 b0 b1 true γ (KK K) = K b0 b1 true := fun aggs b0 b1 => by
    rw [hq]
    exact look_bad (F := ks) (T := ks) (i := 0) rfl f (fuel - 1) e aggs b0 b1 γ K
  have hmax : max (dd : Int) (e : Int) = ((max dd e : Nat) : Int) := by omega
  have fin : ∀ a' : Bool, (a || decide (h.k = 4)) = a' → may h ks.len = true → (a && decide (h.k = 4)) = false → ¬ 512 < n + 1 →
      (goodL (.cons h ks .nil) e a = true ∧ n + 1 + ks.size ≤ 512 → Sp.expr_scan_look_L0 (Sp.expr_scan_look f) fuel (e : Int) (agI a') ks.enc (Int.ofNat ks.enc.length) 0 ((n + 1 : Nat) : Int) ((max dd e : Nat) : Int) (decide ((32 : Int) < (e : Int))) γ (KK K) = K ((n + 1 + ks.size : Nat) : Int) ((max dd (e + ks.deep) : Nat) : Int) false) ∧
      (¬ (goodL (.cons h ks .nil) e a = true ∧ n + 1 + ks.size ≤ 512) → ∃ m d : Int, Sp.expr_scan_look_L0 (Sp.expr_scan_look f) fuel (e : Int) (agI a') ks.enc (Int.ofNat ks.enc.length) 0 ((n + 1 : Nat) : Int) ((max dd e : Nat) : Int) (decide ((32 : Int) < (e : Int))) γ (KK K) = K m d true) := by
    intro a' ha' hmay hag hn1
    have hgood : goodL (.cons h ks .nil) e a = (decide (e ≤ 32) && goodL ks (e + 1) a') := by
      simp only [goodL, hmay, hag, ha', Bool.not_false, Bool.true_and, Bool.and_true]
    rw [hgood]
    by_cases h32 : e ≤ 32
    · rw [decide_eq_false (show ¬ (32 : Int) < (e : Int) by omega), decide_eq_true h32, Bool.true_and]
      obtain ⟨p1, p2⟩ := ih ks 0 e a' (n + 1) (max dd e) f fuel γ K rfl hbs (by omega) (by omega) (by omega) h32 (by unfold fuel; omega) (by omega)
      refine ⟨fun hh => ?_, fun hh => p2 hh⟩
      refine (p1 hh).trans ?_
      rw [show max (max dd e) (e + ks.deep) = max dd (e + ks.deep) by omega]
    · rw [decide_eq_true (show (32 : Int) < (e : Int) by omega), decide_eq_false h32, Bool.false_and]
      exact ⟨fun hh => (by cases hh.1), fun _ => ⟨_, _, bad _ _ _⟩⟩
  unfold Sp.B_expr_scan_look
  by_cases h4 : h.k = 4
  · rw [decide_eq_true h4, cond_true, cond_false, may_eq h ks hb]
    cases hmay : may h ks.len with
    | false =>
      rw [Bool.not_false, cond_true]
      refine ⟨fun hh => ?_, fun _ => ⟨_, _, bad _ _ _⟩⟩
      simp only [goodL, hmay, Bool.false_and, Bool.and_false] at hh
      cases hh.1
    | true =>
      rw [Bool.not_true, cond_false]
      cases a with
      | true =>
        refine ⟨fun hh => ?_, fun _ => ⟨_, _, bad _ _ _⟩⟩
        simp only [goodL, hmay, h4, decide_true, Bool.and_self, Bool.not_true, Bool.false_and, Bool.and_false, Bool.true_and] at hh
        cases hh.1
      | false =>
        rw [show decide ((1 : Int) < IntKind.wrap IntKind.i64 (agI false + 1)) = false from rfl, cond_false, nextI (by omega)]
        by_cases h512 : 512 < n + 1
        · rw [decide_eq_true (show (512 : Int) < ((n + 1 : Nat) : Int) by omega), cond_true]
          exact ⟨fun hh => (by omega), fun _ => ⟨_, _, bad _ _ _⟩⟩
        · rw [decide_eq_false (show ¬ (512 : Int) < ((n + 1 : Nat) : Int) by omega), cond_false, hmax]
          exact fin true (by rw [decide_eq_true h4]; rfl) hmay rfl h512
  · rw [decide_eq_false h4, cond_false, cond_false, may_eq h ks hb]
    cases hmay : may h ks.len with
    | false =>
      rw [Bool.not_false, cond_true]
      refine ⟨fun hh => ?_, fun _ => ⟨_, _, bad _ _ _⟩⟩
      simp only [goodL, hmay, Bool.false_and, Bool.and_false] at hh
      cases hh.1
    | true =>
      rw [Bool.not_true, cond_false, show decide ((1 : Int) < agI a) = false by cases a <;> rfl, cond_false, nextI (by omega)]
      by_cases h512 : 512 < n + 1
      · rw [decide_eq_true (show (512 : Int) < ((n + 1 : Nat) : Int) by omega), cond_true]
        exact ⟨fun hh => (by omega), fun _ => ⟨_, _, bad _ _ _⟩⟩
      · rw [decide_eq_false (show ¬ (512 : Int) < ((n + 1 : Nat) : Int) by omega), cond_false, hmax]
        exact fin a (by rw [decide_eq_false h4, Bool.or_false]) hmay (by rw [decide_eq_false h4, Bool.and_false]) h512
theorem goodL_cons (h : Hd) (ks r : Fo) (d : Nat) (a : Bool) : goodL (.cons h ks r) d a = (goodL (.cons h ks .nil) d a && goodL r d a) := by
  simp only [goodL, Bool.and_true]
theorem look_L : ∀ F : Fo, LookL F
  | .nil => by
    intro T i deep a n dd f q γ K hd hb hi hn hdd hdp hq hf
    obtain ⟨q, rfl⟩ : ∃ g, q = g + 1 := ⟨q - 1, by omega⟩
    rw [Sp.expr_scan_look_L0]
    unfold Sp.B_expr_scan_look_L0
    have hl := drop_nil hd
    rw [decide_eq_false (show ¬ (i : Int) < Int.ofNat T.enc.length by simp only [Int.ofNat_eq_natCast]; omega), cond_false]
    refine ⟨fun _ => ?_, fun hh => absurd ⟨rfl, by simp only [Fo.size]; omega⟩ hh⟩
    simp only [Fo.size, Fo.deep, Nat.add_zero]
    rw [show max dd deep = dd by omega]
    rfl
  | .cons h ks r => by
    intro T i deep a n dd f q γ K hd hb hi hn hdd hdp hq hf
    obtain ⟨q, rfl⟩ : ∃ g, q = g + 1 := ⟨q - 1, by omega⟩
    rw [Sp.expr_scan_look_L0]
    unfold Sp.B_expr_scan_look_L0
    obtain ⟨hlt, _, hd'⟩ := drop_enc hd
    simp only [Fo.all, Bool.and_eq_true, Bool.not_eq_true'] at hb
    rw [decide_eq_true (show (i : Int) < Int.ofNat T.enc.length by simp only [Int.ofNat_eq_natCast]; omega), cond_true, elem_enc hd, cond_false, nextI (by omega), nextI (by omega)]
    obtain ⟨q1, q2⟩ := look_E (look_L ks) h f (deep + 1) n dd a hb.1.1 hb.1.2 hn (by omega) (by omega) γ (fun (z27 z28 : Int) (z29 : Bool) => Sp.expr_scan_look_L0 (Sp.expr_scan_look f) q (deep : Int) (agI a) T.enc (Int.ofNat T.enc.length) ((i + 1 : Nat) : Int) z27 z28 z29 γ (KK K))
    rw [goodL_cons]
    by_cases hg : goodL (.cons h ks .nil) (deep + 1) a = true ∧ n + 1 + ks.size ≤ 512
    · obtain ⟨p1, p2⟩ := look_L r T (i + 1) deep a (n + 1 + ks.size) (max dd (deep + 1 + ks.deep)) f q γ K hd' hb.2 (by omega) hg.2 (by omega) hdp (by omega) hf
      rw [q1 hg, hg.1, Bool.true_and]
      simp only [Fo.size, Fo.deep]
      rw [show n + (1 + ks.size + r.size) = n + 1 + ks.size + r.size by omega, show max dd (deep + max (ks.deep + 1) r.deep) = max (max dd (deep + 1 + ks.deep)) (deep + r.deep) by omega]
      exact ⟨p1, p2⟩
    · obtain ⟨m, d, hm⟩ := q2 hg
      refine ⟨fun hh => (hg ⟨?_, ?_⟩).elim, fun _ => ?_⟩
      · have := hh.1
        rw [Bool.and_eq_true] at this
        exact this.1
      · have := hh.2
        simp only [Fo.size] at this
        omega
      · obtain ⟨q, rfl⟩ : ∃ g, q = g + 1 := ⟨q - 1, by omega⟩
        exact ⟨m, d, hm.trans (look_bad hd' f q _ _ _ _ γ K)⟩
end Go.Proofs.YtppilomaljgkoaaGreatDoor
