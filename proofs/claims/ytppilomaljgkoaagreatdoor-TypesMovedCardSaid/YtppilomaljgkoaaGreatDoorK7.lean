/- Check, Size, Depth: the program's are the reference's. -/
import Derived.Test.YtppilomaljgkoaaGreatDoorK6
set_option linter.unusedVariables false
set_option linter.unusedSimpArgs false
namespace Go.Proofs.YtppilomaljgkoaaGreatDoor
open Go Go.Aev Go.RowKit Go.Sort
def okE (h : Hd) (ks : Fo) : Bool := goodL (.cons h ks .nil) 1 false && decide (1 + ks.size ≤ 512)
theorem scanned_eq {h : Hd} {ks : Fo} (hs : Small h ks) (γ : Type) (K : Int → Int → Bool → Option γ) :
    Sp.expr_scanned h.k h.n h.vk h.vn (mk h.vs) (mk h.tab) (mk h.col) ks.enc γ K = cond (okE h ks) (K ((1 + ks.size : Nat) : Int) ((1 + ks.deep : Nat) : Int) false) (K 0 0 true) := by
  unfold Sp.expr_scanned Sp.B_expr_scanned okE
  obtain ⟨q1, q2⟩ := look_E (look_L ks) h fuel 1 0 0 false hs.big hs.all (by omega) (by omega) (by unfold fuel; omega) γ (fun (z10 z11 : Int) (z12 : Bool) => bif z12 then K 0 0 true else K z10 z11 z12)
  by_cases hg : goodL (.cons h ks .nil) 1 false = true ∧ 0 + 1 + ks.size ≤ 512
  · refine (q1 hg).trans ?_
    rw [hg.1, decide_eq_true (show 1 + ks.size ≤ 512 by omega)]
    simp only [Bool.and_self, cond_true, cond_false]
    rw [show 0 + 1 + ks.size = 1 + ks.size by omega, show max 0 (1 + ks.deep) = 1 + ks.deep by omega]
  · obtain ⟨m, d, hm⟩ := q2 hg
    refine hm.trans ?_
    rw [show (goodL (.cons h ks .nil) 1 false && decide (1 + ks.size ≤ 512)) = false by
      rw [Bool.eq_false_iff]
      intro hc
      rw [Bool.and_eq_true, decide_eq_true_eq] at hc
      exact hg ⟨hc.1, by omega⟩]
    rfl
theorem Check_eq {h : Hd} {ks : Fo} (hs : Small h ks) (γ : Type) (K : Int → Option γ) : Sp.expr_Check h.k h.n h.vk h.vn (mk h.vs) (mk h.tab) (mk h.col) ks.enc γ K = K (cond (okE h ks) 0 100) := by
  unfold Sp.expr_Check Sp.B_expr_Check
  rw [scanned_eq hs]
  cases okE h ks <;> rfl
def KW {γ : Type} (K : Int → Bool → Option γ) : Ex → Int → Bool → Int → Int → Int → Int → Int → Int → ByteArray → ByteArray → ByteArray → List (List Dat) → Option γ := fun z13 z14 z15 z16 z17 z18 z19 z20 z21 z22 z23 z24 z25 => bif Ex.isExit z13 0 then K z16 true else bif Ex.isRet z13 then K z14 z15 else none
def WalkE (f : Nat) (h : Hd) (ks : Fo) (e : Nat) (a : Bool) : Prop := ∀ (γ : Type) (K : Int → Bool → Option γ),
  Sp.ref10_walk f h.k h.n h.vk h.vn (mk h.vs) (mk h.tab) (mk h.col) ks.enc (e : Int) a γ K = cond (goodL (.cons h ks .nil) e a && decide (1 + ks.size ≤ 512)) (K ((1 + ks.size : Nat) : Int) true) (K 0 false)
def WalkL (F : Fo) : Prop := ∀ (T : Fo) (i deep : Nat) (a : Bool) (n f q : Nat) (v0 : Int) (v1 : Bool) (b0 b1 b2 b3 : Int) (b4 b5 b6 : ByteArray) (γ : Type) (K : Int → Bool → Option γ),
  T.enc.drop i = F.enc → F.all (fun h => !h.big) = true → i ≤ n → n ≤ 512 → deep ≤ 32 → 600 ≤ q + n → 40 ≤ f + deep + 1 →
  Sp.ref10_walk_L0 (Sp.ref10_walk f) q (deep : Int) a v0 v1 (n : Int) (i : Int) b0 b1 b2 b3 b4 b5 b6 T.enc γ (KW K) = cond (goodL F (deep + 1) (a || decide (b0 = 4)) && decide (n + F.size ≤ 512)) (K ((n + F.size : Nat) : Int) true) (K 0 false)
theorem walk_E {ks : Fo} (ih : WalkL ks) (h : Hd) (f e : Nat) (a : Bool) (hb : h.big = false) (hbs : ks.all (fun h => !h.big) = true) (he : e ≤ 33) (hf : 40 ≤ f + e) : WalkE f h ks e a := by
  intro γ K
  obtain ⟨f, rfl⟩ : ∃ g, f = g + 1 := ⟨f - 1, by omega⟩
  rw [Sp.ref10_walk]
  unfold Sp.B_ref10_walk
  by_cases h32 : e ≤ 32
  · rw [decide_eq_false (show ¬ (32 : Int) < (e : Int) by omega), cond_false, ref_one_eq h ks a hb]
    cases hm : (may h ks.len && !(a && decide (h.k = 4))) with
    | false =>
      rw [Bool.not_false, cond_true]
      have : goodL (.cons h ks .nil) e a = false := by
        simp only [goodL, Bool.and_true]
        rw [← Bool.and_assoc (may h ks.len), hm, Bool.false_and, Bool.and_false]
      rw [this]; rfl
    | true =>
      rw [Bool.not_true, cond_false]
      have hg : goodL (.cons h ks .nil) e a = goodL ks (e + 1) (a || decide (h.k = 4)) := by
        simp only [goodL, Bool.and_true]
        rw [← Bool.and_assoc (may h ks.len), hm, Bool.true_and, decide_eq_true h32, Bool.true_and]
      have := ih ks 0 e a 1 f fuel 0 false h.k h.n h.vk h.vn (mk h.vs) (mk h.tab) (mk h.col) γ K rfl hbs (by omega) (by omega) h32 (by unfold fuel; omega) (by omega)
      rw [hg]
      exact this
  · rw [decide_eq_true (show (32 : Int) < (e : Int) by omega), cond_true]
    have : goodL (.cons h ks .nil) e a = false := by
      simp only [goodL, decide_eq_false h32, Bool.false_and]
    rw [this]; rfl
theorem walk_L : ∀ F : Fo, WalkL F
  | .nil => by
    intro T i deep a n f q v0 v1 b0 b1 b2 b3 b4 b5 b6 γ K hd hb hi hn hdp hq hf
    obtain ⟨q, rfl⟩ : ∃ g, q = g + 1 := ⟨q - 1, by omega⟩
    rw [Sp.ref10_walk_L0]
    unfold Sp.B_ref10_walk_L0
    have hl := drop_nil hd
    rw [decide_eq_false (show ¬ (i : Int) < Int.ofNat T.enc.length by simp only [Int.ofNat_eq_natCast]; omega), cond_false]
    rw [decide_eq_true (show n + Fo.nil.size ≤ 512 from hn)]
    rfl
  | .cons h ks r => by
    intro T i deep a n f q v0 v1 b0 b1 b2 b3 b4 b5 b6 γ K hd hb hi hn hdp hq hf
    obtain ⟨q, rfl⟩ : ∃ g, q = g + 1 := ⟨q - 1, by omega⟩
    rw [Sp.ref10_walk_L0]
    unfold Sp.B_ref10_walk_L0
    obtain ⟨hlt, _, hd'⟩ := drop_enc hd
    simp only [Fo.all, Bool.and_eq_true, Bool.not_eq_true'] at hb
    rw [decide_eq_true (show (i : Int) < Int.ofNat T.enc.length by simp only [Int.ofNat_eq_natCast]; omega), cond_true, elem_enc hd, nextI (by omega), nextI (by omega)]
    have hE := fun a' => walk_E (walk_L ks) h f (deep + 1) a' hb.1.1 hb.1.2 (by omega) (by omega)
    have key : ∀ a', (a || decide (b0 = 4)) = a' →
        (Sp.ref10_walk f h.k h.n h.vk h.vn (mk h.vs) (mk h.tab) (mk h.col) ks.enc ((deep + 1 : Nat) : Int) a' γ fun (z33 : Int) (z34 : Bool) => bif !z34 then KW K Ex.ret 0 false (IntKind.wrap IntKind.i64 ((n : Int) + z33)) (i : Int) b0 b1 b2 b3 b4 b5 b6 T.enc else bif decide ((512 : Int) < IntKind.wrap IntKind.i64 ((n : Int) + z33)) then KW K Ex.ret 0 false (IntKind.wrap IntKind.i64 ((n : Int) + z33)) (i : Int) b0 b1 b2 b3 b4 b5 b6 T.enc else Sp.ref10_walk_L0 (Sp.ref10_walk f) q (deep : Int) a v0 v1 (IntKind.wrap IntKind.i64 ((n : Int) + z33)) ((i + 1 : Nat) : Int) b0 b1 b2 b3 b4 b5 b6 T.enc γ (KW K)) =
        cond (goodL (.cons h ks r) (deep + 1) (a || decide (b0 = 4)) && decide (n + (Fo.cons h ks r).size ≤ 512)) (K ((n + (Fo.cons h ks r).size : Nat) : Int) true) (K 0 false) := by
      intro a' ha'
      rw [hE a' γ, goodL_cons h ks r, ha']
      cases hg : goodL (.cons h ks .nil) (deep + 1) a' with
      | false => rfl
      | true =>
        rw [show (Fo.cons h ks r).size = 1 + ks.size + r.size from rfl]
        simp only [Bool.true_and]
        by_cases h512 : 1 + ks.size ≤ 512
        · rw [decide_eq_true h512, cond_true, Bool.not_true, cond_false, wrap_i64 (by omega)]
          by_cases hn2 : n + (1 + ks.size) ≤ 512
          · rw [decide_eq_false (show ¬ (512 : Int) < (n : Int) + ((1 + ks.size : Nat) : Int) by omega), cond_false]
            have := walk_L r T (i + 1) deep a (n + (1 + ks.size)) f q v0 v1 b0 b1 b2 b3 b4 b5 b6 γ K hd' hb.2 (by omega) hn2 hdp (by omega) hf
            rw [show ((n : Int) + ((1 + ks.size : Nat) : Int)) = ((n + (1 + ks.size) : Nat) : Int) by omega, this, ha', show n + (1 + ks.size) + r.size = n + (1 + ks.size + r.size) by omega]
          · rw [decide_eq_true (show (512 : Int) < (n : Int) + ((1 + ks.size : Nat) : Int) by omega), cond_true, decide_eq_false (show ¬ n + (1 + ks.size + r.size) ≤ 512 by omega), Bool.and_false]
            rfl
        · rw [decide_eq_false h512, cond_false, decide_eq_false (show ¬ n + (1 + ks.size + r.size) ≤ 512 by omega), Bool.and_false]
          rfl
    cases a with
    | true => exact key true rfl
    | false => exact key (decide (b0 = 4)) rfl
theorem ref_Check_eq {h : Hd} {ks : Fo} (hs : Small h ks) (γ : Type) (K : Bool → Option γ) : Sp.ref10_Check h.k h.n h.vk h.vn (mk h.vs) (mk h.tab) (mk h.col) ks.enc γ K = K (okE h ks) := by
  unfold Sp.ref10_Check Sp.B_ref10_Check
  refine (walk_E (walk_L ks) h fuel 1 false hs.big hs.all (by omega) (by unfold fuel; omega) γ _).trans ?_
  unfold okE
  cases (goodL (.cons h ks .nil) 1 false && decide (1 + ks.size ≤ 512)) <;> rfl
end Go.Proofs.YtppilomaljgkoaaGreatDoor
