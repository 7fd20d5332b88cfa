/- Expressions as trees; which are too large to be looked at. -/
import Derived.Test.YtppilomaljgkoaaGreatDoorK4
set_option linter.unusedVariables false
set_option linter.unusedSimpArgs false
namespace Go.Proofs.YtppilomaljgkoaaGreatDoor
open Go Go.Aev Go.RowKit Go.Sort
structure Hd where
  k : Int
  n : Int
  vk : Int
  vn : Int
  vs : List UInt8
  tab : List UInt8
  col : List UInt8
inductive Fo where
  | nil
  | cons (h : Hd) (ks rest : Fo)
namespace Fo
def enc : Fo → List (List Dat)
  | nil => []
  | cons h ks r => [.int .i64 h.k, .int .i64 h.n, .int .i64 h.vk, .int .i64 h.vn, .str (mk h.vs), .str (mk h.tab), .str (mk h.col), .sl ks.enc] :: r.enc
def len : Fo → Nat
  | nil => 0
  | cons _ _ r => r.len + 1
def size : Fo → Nat
  | nil => 0
  | cons _ ks r => 1 + ks.size + r.size
def deep : Fo → Nat
  | nil => 0
  | cons _ ks r => max (ks.deep + 1) r.deep
def all (p : Hd → Bool) : Fo → Bool
  | nil => true
  | cons h ks r => p h && ks.all p && r.all p
theorem enc_len : ∀ F : Fo, F.enc.length = F.len
  | nil => rfl
  | cons h ks r => by simp only [enc, len, List.length_cons, enc_len r]
theorem len_size : ∀ F : Fo, F.len ≤ F.size
  | nil => Nat.le_refl _
  | cons h ks r => by have := len_size r; simp only [len, size]; omega
end Fo
def encE (h : Hd) (ks : Fo) : List Dat := [.int .i64 h.k, .int .i64 h.n, .int .i64 h.vk, .int .i64 h.vn, .str (mk h.vs), .str (mk h.tab), .str (mk h.col), .sl ks.enc]
theorem drop_enc {T : Fo} {i : Nat} {h : Hd} {ks r : Fo} (hd : T.enc.drop i = (Fo.cons h ks r).enc) : i < T.enc.length ∧ T.enc[i]? = some (encE h ks) ∧ T.enc.drop (i + 1) = r.enc := by
  have hi : i < T.enc.length := by
    apply Decidable.byContradiction
    intro hn
    rw [List.drop_eq_nil_of_le (by omega)] at hd
    cases hd
  rw [List.drop_eq_getElem_cons hi] at hd
  injection hd with h1 h2
  exact ⟨hi, by rw [List.getElem?_eq_getElem hi, h1]; rfl, h2⟩
theorem drop_nil {T : Fo} {i : Nat} (hd : T.enc.drop i = Fo.nil.enc) : T.enc.length ≤ i := by
  have := congrArg List.length hd
  rw [List.length_drop] at this
  simp only [Fo.enc, List.length_nil] at this
  omega
theorem elem_enc {β : Type} {T : Fo} {i : Nat} {h : Hd} {ks r : Fo} (hd : T.enc.drop i = (Fo.cons h ks r).enc) (G : Int → Int → Int → Int → ByteArray → ByteArray → ByteArray → List (List Dat) → Option β) :
    (elemAt T.enc (i : Int) fun z => bif List.length z == 8 then cellAt z 0 fun z1 => Aev.asInt IntKind.i64 z1 fun a => cellAt z 1 fun z2 => Aev.asInt IntKind.i64 z2 fun b => cellAt z 2 fun z3 => Aev.asInt IntKind.i64 z3 fun c => cellAt z 3 fun z4 => Aev.asInt IntKind.i64 z4 fun d => cellAt z 4 fun z5 => asStr z5 fun s => cellAt z 5 fun z6 => asStr z6 fun t => cellAt z 6 fun z7 => asStr z7 fun u => cellAt z 7 fun z8 => asSl z8 fun l => G a b c d s t u l else none) =
      G h.k h.n h.vk h.vn (mk h.vs) (mk h.tab) (mk h.col) ks.enc := by
  rw [elemAt_some (drop_enc hd).2.1]
  rfl
theorem nextI {i : Nat} (h : i ≤ 4611686018427387904) : IntKind.wrap .i64 ((i : Int) + 1) = ((i + 1 : Nat) : Int) := by rw [wrap_i64 (by omega)]; omega
def Hd.big (h : Hd) : Bool := decide (200 < h.tab.length) || decide (200 < h.col.length) || decide (500 < h.vs.length)
def lg : Fo → Nat → Nat → Option Nat
  | .nil, _, n => some n
  | .cons h ks r, d, n => if 60 < d ∨ 1000 < n + 1 ∨ h.big = true then none else (lg ks (d + 1) (n + 1)).bind fun m => lg r d m
theorem lg_le : ∀ (F : Fo) (d n m : Nat), lg F d n = some m → m = n + F.size ∧ (n ≤ 1000 → m ≤ 1000)
  | .nil, d, n, m, h => by cases h; exact ⟨rfl, id⟩
  | .cons h ks r, d, n, m, hm => by
    unfold lg at hm
    split at hm
    · cases hm
    · rename_i hc
      rw [Option.bind_eq_some_iff] at hm
      obtain ⟨p, h1, h2⟩ := hm
      obtain ⟨e1, b1⟩ := lg_le ks _ _ _ h1
      obtain ⟨e2, b2⟩ := lg_le r _ _ _ h2
      refine ⟨by simp only [Fo.size]; omega, fun _ => b2 (b1 (by omega))⟩
theorem lg_small : ∀ (F : Fo) (d n m : Nat), d ≤ 61 → lg F d n = some m → F.deep + d ≤ 61 ∧ F.all (fun h => !h.big) = true
  | .nil, d, n, m, hd, h => ⟨by simp only [Fo.deep]; omega, rfl⟩
  | .cons h ks r, d, n, m, hd, hm => by
    unfold lg at hm
    split at hm
    · cases hm
    · rename_i hc
      rw [Option.bind_eq_some_iff] at hm
      obtain ⟨p, h1, h2⟩ := hm
      obtain ⟨e1, b1⟩ := lg_small ks _ _ _ (by omega) h1
      obtain ⟨e2, b2⟩ := lg_small r _ _ _ hd h2
      have hb : h.big = false := by cases hx : h.big with
        | false => rfl
        | true => exact absurd (.inr (.inr hx)) hc
      refine ⟨by simp only [Fo.deep]; omega, ?_⟩
      simp only [Fo.all, hb, b1, b2]
      rfl
def LgE (f : Nat) (h : Hd) (ks : Fo) (e n : Nat) : Prop := ∀ (γ : Type) (K : Bool → Int → Option γ),
  (∀ m, lg (.cons h ks .nil) e n = some m → Sp.ref10_large f h.k h.n h.vk h.vn (mk h.vs) (mk h.tab) (mk h.col) ks.enc (e : Int) (n : Int) γ K = K false (m : Int)) ∧
  (lg (.cons h ks .nil) e n = none → ∃ m : Int, Sp.ref10_large f h.k h.n h.vk h.vn (mk h.vs) (mk h.tab) (mk h.col) ks.enc (e : Int) (n : Int) γ K = K true m)
def LgL (F : Fo) : Prop := ∀ (T : Fo) (i d n f q : Nat) (v : Bool) (b0 b1 b2 b3 : Int) (b4 b5 b6 : ByteArray) (γ : Type) (K : Ex → Bool → Int → Int → Int → Int → Int → ByteArray → ByteArray → ByteArray → List (List Dat) → Int → Option γ),
  T.enc.drop i = F.enc → i ≤ n → n ≤ 1000 → d ≤ 60 → 1002 ≤ q + n → 62 ≤ f + d + 1 →
  (∀ m, lg F (d + 1) n = some m → Sp.ref10_large_L0 (Sp.ref10_large f) q (d : Int) v (i : Int) b0 b1 b2 b3 b4 b5 b6 T.enc (n : Int) γ K = K (.exit 0) v ((i + F.len : Nat) : Int) b0 b1 b2 b3 b4 b5 b6 T.enc (m : Int)) ∧
  (lg F (d + 1) n = none → ∃ (j m : Int), Sp.ref10_large_L0 (Sp.ref10_large f) q (d : Int) v (i : Int) b0 b1 b2 b3 b4 b5 b6 T.enc (n : Int) γ K = K .ret true j b0 b1 b2 b3 b4 b5 b6 T.enc m)
theorem large_E {ks : Fo} (ih : LgL ks) (h : Hd) (f e n : Nat) (hn : n ≤ 1000) (he : e ≤ 61) (hf : 62 ≤ f + e) : LgE f h ks e n := by
  intro γ K
  obtain ⟨f, rfl⟩ : ∃ g, f = g + 1 := ⟨f - 1, by omega⟩
  rw [Sp.ref10_large]
  unfold Sp.B_ref10_large
  rw [nextI (by omega)]
  simp only [size_mk, lg]
  by_cases h1 : 60 < e
  · rw [decide_eq_true (show (60 : Int) < (e : Int) by omega), cond_true, if_pos (.inl h1)]
    exact ⟨fun m hm => (by cases hm), fun _ => ⟨_, rfl⟩⟩
  rw [decide_eq_false (show ¬ (60 : Int) < (e : Int) by omega), cond_false]
  by_cases h2 : 1000 < n + 1
  · rw [decide_eq_true (show (1000 : Int) < ((n + 1 : Nat) : Int) by omega), cond_true, if_pos (.inr (.inl h2))]
    exact ⟨fun m hm => (by cases hm), fun _ => ⟨_, rfl⟩⟩
  rw [decide_eq_false (show ¬ (1000 : Int) < ((n + 1 : Nat) : Int) by omega), cond_false]
  by_cases h3 : 200 < h.tab.length
  · rw [decide_eq_true (show (200 : Int) < Int.ofNat h.tab.length by simp only [Int.ofNat_eq_natCast]; omega), cond_true, if_pos (.inr (.inr (by unfold Hd.big; rw [decide_eq_true h3]; rfl)))]
    exact ⟨fun m hm => (by cases hm), fun _ => ⟨_, rfl⟩⟩
  rw [decide_eq_false (show ¬ (200 : Int) < Int.ofNat h.tab.length by simp only [Int.ofNat_eq_natCast]; omega), cond_false]
  by_cases h4 : 200 < h.col.length
  · rw [decide_eq_true (show (200 : Int) < Int.ofNat h.col.length by simp only [Int.ofNat_eq_natCast]; omega), cond_true, if_pos (.inr (.inr (by unfold Hd.big; rw [decide_eq_true h4, Bool.or_true]; rfl)))]
    exact ⟨fun m hm => (by cases hm), fun _ => ⟨_, rfl⟩⟩
  rw [decide_eq_false (show ¬ (200 : Int) < Int.ofNat h.col.length by simp only [Int.ofNat_eq_natCast]; omega), cond_false]
  by_cases h5 : 500 < h.vs.length
  · rw [decide_eq_true (show (500 : Int) < Int.ofNat h.vs.length by simp only [Int.ofNat_eq_natCast]; omega), cond_true, if_pos (.inr (.inr (by unfold Hd.big; rw [decide_eq_true h5, Bool.or_true])))]
    exact ⟨fun m hm => (by cases hm), fun _ => ⟨_, rfl⟩⟩
  rw [decide_eq_false (show ¬ (500 : Int) < Int.ofNat h.vs.length by simp only [Int.ofNat_eq_natCast]; omega), cond_false]
  have hb : h.big = false := by unfold Hd.big; rw [decide_eq_false h3, decide_eq_false h4, decide_eq_false h5]; rfl
  rw [if_neg (by rw [hb]; simp; omega)]
  obtain ⟨q1, q2⟩ := ih ks 0 e (n + 1) f fuel false h.k h.n h.vk h.vn (mk h.vs) (mk h.tab) (mk h.col) γ (fun (z12 : Ex) (z13 : Bool) (z14 z15 z16 z17 z18 : Int) (z19 z20 z21 : ByteArray) (z22 : List (List Dat)) (z23 : Int) => bif Ex.isExit z12 0 then K false z23 else bif Ex.isRet z12 then K z13 z23 else none)
    rfl (by omega) (by omega) (by omega) (by have : 1002 ≤ fuel := by decide
                                             omega) (by omega)
  cases hl : lg ks (e + 1) (n + 1) with
  | none =>
    refine ⟨fun m hm => (by cases hm), fun _ => ?_⟩
    obtain ⟨j, m, hjm⟩ := q2 hl
    exact ⟨m, hjm⟩
  | some m' =>
    refine ⟨fun m hm => ?_, fun hm => (by cases hm)⟩
    cases hm
    exact q1 _ hl
theorem lg_cons (h : Hd) (ks r : Fo) (d n : Nat) : lg (.cons h ks r) d n = (lg (.cons h ks .nil) d n).bind fun m => lg r d m := by
  simp only [lg]
  split
  · rfl
  · cases lg ks (d + 1) (n + 1) <;> rfl
theorem large_L : ∀ F : Fo, LgL F
  | .nil => by
    intro T i d n f q v b0 b1 b2 b3 b4 b5 b6 γ K hd hi hn hdd hq hf
    obtain ⟨q, rfl⟩ : ∃ g, q = g + 1 := ⟨q - 1, by omega⟩
    rw [Sp.ref10_large_L0]
    unfold Sp.B_ref10_large_L0
    have hl := drop_nil hd
    rw [decide_eq_false (show ¬ (i : Int) < Int.ofNat T.enc.length by simp only [Int.ofNat_eq_natCast]; omega), cond_false]
    refine ⟨fun m hm => ?_, fun hm => (by cases hm)⟩
    cases hm
    rfl
  | .cons h ks r => by
    intro T i d n f q v b0 b1 b2 b3 b4 b5 b6 γ K hd hi hn hdd hq hf
    obtain ⟨q, rfl⟩ : ∃ g, q = g + 1 := ⟨q - 1, by omega⟩
    rw [Sp.ref10_large_L0]
    unfold Sp.B_ref10_large_L0
    obtain ⟨hlt, _, hd'⟩ := drop_enc hd
    rw [decide_eq_true (show (i : Int) < Int.ofNat T.enc.length by simp only [Int.ofNat_eq_natCast]; omega), cond_true, elem_enc hd, nextI (by omega), nextI (by omega)]
    obtain ⟨q1, q2⟩ := large_E (large_L ks) h f (d + 1) n hn (by omega) (by omega) γ (fun (z31 : Bool) (z32 : Int) => bif z31 then K Ex.ret true (i : Int) b0 b1 b2 b3 b4 b5 b6 T.enc z32 else Sp.ref10_large_L0 (Sp.ref10_large f) q (d : Int) v ((i + 1 : Nat) : Int) b0 b1 b2 b3 b4 b5 b6 T.enc z32 γ K)
    rw [lg_cons]
    cases hl : lg (.cons h ks .nil) (d + 1) n with
    | none =>
      refine ⟨fun m hm => (by cases hm), fun _ => ?_⟩
      obtain ⟨m, hm⟩ := q2 hl
      exact ⟨_, m, hm⟩
    | some m1 =>
      obtain ⟨e1, b1'⟩ := lg_le _ _ _ _ hl
      have e2 : n + 1 ≤ m1 := by rw [e1]; simp only [Fo.size]; omega
      have hq1 := q1 _ hl
      simp only [cond_false] at hq1
      obtain ⟨p1, p2⟩ := large_L r T (i + 1) d m1 f q v b0 b1 b2 b3 b4 b5 b6 γ K hd' (by omega) (b1' hn) hdd (by omega) hf
      simp only [Option.bind_some]
      refine ⟨fun m hm => ?_, fun hm => ?_⟩
      · rw [hq1, p1 m hm]
        simp only [Fo.len]
        rw [show i + 1 + r.len = i + (r.len + 1) by omega]
      · rw [hq1]; exact p2 hm
def large (h : Hd) (ks : Fo) : Bool := (lg (.cons h ks .nil) 0 0).isNone
theorem Large_eq (h : Hd) (ks : Fo) (γ : Type) (K : Bool → Option γ) : Sp.ref10_Large h.k h.n h.vk h.vn (mk h.vs) (mk h.tab) (mk h.col) ks.enc γ K = K (large h ks) := by
  unfold Sp.ref10_Large Sp.B_ref10_Large large
  obtain ⟨q1, q2⟩ := large_E (large_L ks) h fuel 0 0 (by omega) (by omega) (by decide) γ (fun z10 z11 => K z10)
  cases hl : lg (.cons h ks .nil) 0 0 with
  | none =>
    obtain ⟨m, hm⟩ := q2 hl
    exact hm
  | some m => exact q1 m hl
structure Small (h : Hd) (ks : Fo) : Prop where
  size : ks.size ≤ 999
  deep : ks.deep ≤ 60
  big : h.big = false
  all : ks.all (fun h => !h.big) = true
theorem small_of {h : Hd} {ks : Fo} (hl : large h ks = false) : Small h ks := by
  unfold large at hl
  cases h0 : lg (.cons h ks .nil) 0 0 with
  | none => rw [h0] at hl; cases hl
  | some m =>
    obtain ⟨e1, b1⟩ := lg_le _ _ _ _ h0
    obtain ⟨e2, b2⟩ := lg_small _ _ _ _ (by omega) h0
    have b3 := b1 (by omega)
    simp only [Fo.size, Fo.deep, Fo.all, Bool.and_eq_true] at e1 e2 b2
    exact ⟨by omega, by omega, by simpa using b2.1.1, b2.1.2⟩
end Go.Proofs.YtppilomaljgkoaaGreatDoor
