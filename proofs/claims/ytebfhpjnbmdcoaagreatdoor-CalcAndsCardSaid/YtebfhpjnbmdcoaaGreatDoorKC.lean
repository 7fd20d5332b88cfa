/- ExprLooks: its plain law. -/
import Derived.Test.YtebfhpjnbmdcoaaGreatDoorKE
set_option linter.unusedVariables false
set_option linter.unusedSimpArgs false
namespace Go.Proofs.YtebfhpjnbmdcoaaGreatDoor
open Go Go.Aev Go.RowKit Go.Sort

/-! ### two expressions -/
/-! ### lists of expressions -/
/-- each may be, but for its parts -/
def wfL : Fo → Bool
  | .nil => true
  | .cons h ks r => may h ks.len && (wfL ks && wfL r)
theorem wf_good : ∀ (F : Fo) (d : Nat) (a : Bool), goodL F d a = true → wfL F = true
  | .nil, _, _, _ => rfl
  | .cons h ks r, d, a, hg => by
    simp only [goodL, Bool.and_eq_true] at hg
    simp only [wfL, Bool.and_eq_true]
    exact ⟨hg.1.2.1, wf_good ks _ _ hg.1.2.2.2, wf_good r _ _ hg.2⟩

theorem elem0 {β : Type} {h : Hd} {ks r : Fo} (G : Int → Int → Int → Int → ByteArray → ByteArray → ByteArray → List (List Dat) → Option β) :
    (elemAt (Fo.cons h ks r).enc 0 fun z => bif List.length z == 8 then cellAt z 0 fun z1 => Aev.asInt IntKind.i64 z1 fun a => cellAt z 1 fun z2 => Aev.asInt IntKind.i64 z2 fun b => cellAt z 2 fun z3 => Aev.asInt IntKind.i64 z3 fun c => cellAt z 3 fun z4 => Aev.asInt IntKind.i64 z4 fun d => cellAt z 4 fun z5 => asStr z5 fun s => cellAt z 5 fun z6 => asStr z6 fun t => cellAt z 6 fun z7 => asStr z7 fun u => cellAt z 7 fun z8 => asSl z8 fun l => G a b c d s t u l else none) =
      G h.k h.n h.vk h.vn (mk h.vs) (mk h.tab) (mk h.col) ks.enc := elem_enc (T := .cons h ks r) (i := 0) rfl G
theorem elem1 {β : Type} {h0 h : Hd} {k0 ks r : Fo} (G : Int → Int → Int → Int → ByteArray → ByteArray → ByteArray → List (List Dat) → Option β) :
    (elemAt (Fo.cons h0 k0 (.cons h ks r)).enc 1 fun z => bif List.length z == 8 then cellAt z 0 fun z1 => Aev.asInt IntKind.i64 z1 fun a => cellAt z 1 fun z2 => Aev.asInt IntKind.i64 z2 fun b => cellAt z 2 fun z3 => Aev.asInt IntKind.i64 z3 fun c => cellAt z 3 fun z4 => Aev.asInt IntKind.i64 z4 fun d => cellAt z 4 fun z5 => asStr z5 fun s => cellAt z 5 fun z6 => asStr z6 fun t => cellAt z 6 fun z7 => asStr z7 fun u => cellAt z 7 fun z8 => asSl z8 fun l => G a b c d s t u l else none) =
      G h.k h.n h.vk h.vn (mk h.vs) (mk h.tab) (mk h.col) ks.enc := elem_enc (T := .cons h0 k0 (.cons h ks r)) (i := 1) rfl G

/-- what a kind of an expression says of its parts -/
theorem may_op {h : Hd} {m : Nat} (hk : h.k = 3) (hm : may h m = true) : (m = 1 ∧ (h.n = 3 ∨ h.n = 15 ∨ h.n = 16 ∨ h.n = 17)) ∨ (m = 2 ∧ 1 ≤ h.n ∧ h.n < 15 ∧ h.n ≠ 3) := by
  unfold may at hm
  rw [if_neg (by omega), if_neg (by omega), if_pos hk] at hm
  simp only [Bool.and_eq_true, decide_eq_true_eq] at hm
  obtain ⟨_, _, _, h1, h2⟩ := hm
  unfold arity at h1 h2
  split at h2
  · left; omega
  · rename_i h3
    rw [if_neg h3] at h1
    split at h2
    · right; omega
    · rename_i h4; rw [if_neg h4] at h1; omega
theorem may_agg {h : Hd} {m : Nat} (hk : h.k = 4) (hm : may h m = true) : (m = 0 ∧ h.n = 1) ∨ (m = 1 ∧ 2 ≤ h.n ∧ h.n ≤ 5) := by
  unfold may at hm
  rw [if_neg (by omega), if_neg (by omega), if_neg (by omega), if_pos hk] at hm
  simp only [Bool.and_eq_true, decide_eq_true_eq] at hm
  obtain ⟨_, _, _, h1, h2, h3⟩ := hm
  split at h3 <;> omega
theorem may_kind {h : Hd} {m : Nat} (hm : may h m = true) : h.k = 1 ∨ h.k = 2 ∨ h.k = 3 ∨ h.k = 4 := by
  unfold may at hm
  split at hm
  · omega
  · split at hm
    · omega
    · split at hm
      · omega
      · split at hm
        · omega
        · cases hm

theorem len_one {F : Fo} (h : F.len = 1) : ∃ h0 k0, F = .cons h0 k0 .nil := by
  cases F with
  | nil => cases h
  | cons h0 k0 r => cases r with
    | nil => exact ⟨h0, k0, rfl⟩
    | cons _ _ _ => simp only [Fo.len] at h; omega
theorem len_two {F : Fo} (h : F.len = 2) : ∃ h0 k0 h1 k1, F = .cons h0 k0 (.cons h1 k1 .nil) := by
  cases F with
  | nil => cases h
  | cons h0 k0 r =>
    obtain ⟨h1, k1, rfl⟩ := len_one (F := r) (by simp only [Fo.len] at h; omega)
    exact ⟨h0, k0, h1, k1, rfl⟩

def okD (e : List Dat) : Prop := ∃ h ks, e = encE h ks ∧ ks.size ≤ 100000 ∧ ks.deep ≤ 100000
theorem elem_at {β : Type} {l : List (List Dat)} {i : Nat} {h : Hd} {ks : Fo} (hg : l[i]? = some (encE h ks)) (G : Int → Int → Int → Int → ByteArray → ByteArray → ByteArray → List (List Dat) → Option β) :
    (elemAt l (i : Int) fun z => bif List.length z == 8 then cellAt z 0 fun z1 => Aev.asInt IntKind.i64 z1 fun a => cellAt z 1 fun z2 => Aev.asInt IntKind.i64 z2 fun b => cellAt z 2 fun z3 => Aev.asInt IntKind.i64 z3 fun c => cellAt z 3 fun z4 => Aev.asInt IntKind.i64 z4 fun d => cellAt z 4 fun z5 => asStr z5 fun s => cellAt z 5 fun z6 => asStr z6 fun t => cellAt z 6 fun z7 => asStr z7 fun u => cellAt z 7 fun z8 => asSl z8 fun l => G a b c d s t u l else none) =
      G h.k h.n h.vk h.vn (mk h.vs) (mk h.tab) (mk h.col) ks.enc := by
  rw [elemAt_some hg]
  rfl
/-! ### as they stand in its text -/
def pre : Fo → List (List Dat)
  | .nil => []
  | .cons h ks r => encE h ks :: (pre ks ++ pre r)
theorem pre_len : ∀ F : Fo, (pre F).length = F.size
  | .nil => rfl
  | .cons h ks r => by simp only [pre, List.length_cons, List.length_append, pre_len ks, pre_len r, Fo.size]; omega
theorem pre_ok : ∀ F : Fo, F.size ≤ 100000 → F.deep ≤ 100000 → ∀ e ∈ pre F, okD e
  | .nil, _, _, e, he => by cases he
  | .cons h ks r, hs, hd, e, he => by
    simp only [Fo.size, Fo.deep] at hs hd
    simp only [pre, List.mem_cons, List.mem_append] at he
    rcases he with rfl | he | he
    · exact ⟨h, ks, rfl, by omega, by omega⟩
    · exact pre_ok ks (by omega) (by omega) e he
    · exact pre_ok r (by omega) (by omega) e he
theorem ok_len {e : List Dat} (h : okD e) : e.length = 8 := by obtain ⟨_, _, rfl, _⟩ := h; rfl
theorem sized_ok {l : List (List Dat)} (h : ∀ e ∈ l, okD e) : sized l 8 = true := by
  unfold sized
  rw [List.all_eq_true]
  exact fun e he => by simpa using ok_len (h e he)

theorem preL_eq : ∀ (F : Fo) (n : Nat), F.deep ≤ n → preL (preK n) F.enc = some (pre F)
  | .nil, _, _ => rfl
  | .cons h ks r, n, hn => by
    simp only [Fo.deep] at hn
    obtain ⟨m, rfl⟩ : ∃ m, n = m + 1 := ⟨n - 1, by omega⟩
    have h1 := preL_eq ks m (by omega)
    have h2 := preL_eq r (m + 1) (by omega)
    show (match preK (m + 1) (encE h ks), preL (preK (m + 1)) r.enc with
      | some a, some b => some (a ++ b)
      | _, _ => none) = _
    have h3 : preK (m + 1) (encE h ks) = some (encE h ks :: pre ks) := by
      show (match preL (preK m) ks.enc with
        | some l => some (encE h ks :: l)
        | none => none) = _
      rw [h1]
    rw [h2, h3]
    rfl
theorem preK_eq (h : Hd) (ks : Fo) (n : Nat) (hn : ks.deep + 1 ≤ n) : preK n (encE h ks) = some (encE h ks :: pre ks) := by
  obtain ⟨m, rfl⟩ : ∃ m, n = m + 1 := ⟨n - 1, by omega⟩
  show (match preL (preK m) ks.enc with
    | some l => some (encE h ks :: l)
    | none => none) = _
  rw [preL_eq ks m (by omega)]

/-! ### the reference's Kinds -/
def KindAt (f : Nat) (h : Hd) (ks : Fo) (kv : Int) : Prop := ∀ (γ : Type) (K : List (List Dat) → Option γ),
  Sp.ref10_Kinds f h.k h.n h.vk h.vn (mk h.vs) (mk h.tab) (mk h.col) ks.enc kv γ K = K ((encE h ks :: pre ks).filter (isKind kv))
def KindL (F : Fo) (kv : Int) : Prop := ∀ (T : Fo) (i f q : Nat) (out : List (List Dat)) (b0 b1 b2 b3 : Int) (b4 b5 b6 : ByteArray) (γ : Type) (K : Ex → List (List Dat) → Int → Int → Int → Int → Int → ByteArray → ByteArray → ByteArray → List (List Dat) → Option γ),
  T.enc.drop i = F.enc → sized out 8 = true → i + F.len ≤ 100000 → F.len < q → F.deep < f → F.deep ≤ 100000 → out.length + F.size ≤ 100000 →
  Sp.ref10_Kinds_L0 (Sp.ref10_Kinds f) q kv out (i : Int) b0 b1 b2 b3 b4 b5 b6 T.enc γ K = K (.exit 0) (out ++ (pre F).filter (isKind kv)) ((i + F.len : Nat) : Int) b0 b1 b2 b3 b4 b5 b6 T.enc

theorem sized_append {a b : List (List Dat)} {n : Nat} (ha : sized a n = true) (hb : sized b n = true) : sized (a ++ b) n = true := by
  unfold sized at *
  rw [List.all_append, ha, hb]; rfl
theorem filter_ok {l : List (List Dat)} (p : List Dat → Bool) (h : ∀ e ∈ l, okD e) : ∀ e ∈ l.filter p, okD e := fun e he => h e (List.mem_filter.1 he).1

theorem kind_E {ks : Fo} {kv : Int} (ih : KindL ks kv) (h : Hd) (f : Nat) (hf : ks.deep + 1 < f) (hd : ks.deep ≤ 100000) (hs : ks.size < 100000) : KindAt f h ks kv := by
  intro γ K
  obtain ⟨f, rfl⟩ : ∃ g, f = g + 1 := ⟨f - 1, by omega⟩
  rw [Sp.ref10_Kinds]
  unfold Sp.B_ref10_Kinds
  have hlen := Fo.len_size ks
  have hpre := filter_ok (isKind kv) (pre_ok ks (by omega) (by omega))
  have hk : isKind kv (encE h ks) = decide (h.k = kv) := rfl
  by_cases hkv : h.k = kv
  · rw [decide_eq_true hkv, cond_true]
    refine (ih ks 0 f fuel [encE h ks] h.k h.n h.vk h.vn (mk h.vs) (mk h.tab) (mk h.col) γ _ rfl rfl (by omega) (by unfold fuel; omega) (by omega) hd (by simp only [List.length_singleton]; omega)).trans ?_
    rw [sized_append (a := [encE h ks]) rfl (sized_ok hpre), List.filter_cons, hk, decide_eq_true hkv]
    rfl
  · rw [decide_eq_false hkv, cond_false]
    refine (ih ks 0 f fuel [] h.k h.n h.vk h.vn (mk h.vs) (mk h.tab) (mk h.col) γ _ rfl rfl (by omega) (by unfold fuel; omega) (by omega) hd (by simp only [List.length_nil]; omega)).trans ?_
    rw [List.nil_append, sized_ok hpre, List.filter_cons, hk, decide_eq_false hkv]
    rfl

theorem kind_L (kv : Int) : ∀ F : Fo, KindL F kv
  | .nil => by
    intro T i f q out b0 b1 b2 b3 b4 b5 b6 γ K hd ho hi hq hf hdp hs
    obtain ⟨q, rfl⟩ : ∃ g, q = g + 1 := ⟨q - 1, by omega⟩
    rw [Sp.ref10_Kinds_L0]
    unfold Sp.B_ref10_Kinds_L0
    have hl := drop_nil hd
    rw [ho, cond_true, decide_eq_false (show ¬ (i : Int) < Int.ofNat T.enc.length by simp only [Int.ofNat_eq_natCast]; omega), cond_false]
    simp only [pre, List.filter_nil, List.append_nil, Fo.len, Nat.add_zero]
  | .cons h ks r => by
    intro T i f q out b0 b1 b2 b3 b4 b5 b6 γ K hd ho hi hq hf hdp hs
    simp only [Fo.len, Fo.deep, Fo.size] at hi hq hf hdp hs
    obtain ⟨q, rfl⟩ : ∃ g, q = g + 1 := ⟨q - 1, by omega⟩
    rw [Sp.ref10_Kinds_L0]
    unfold Sp.B_ref10_Kinds_L0
    obtain ⟨hlt, _, hn⟩ := drop_enc hd
    rw [ho, cond_true, decide_eq_true (show (i : Int) < Int.ofNat T.enc.length by simp only [Int.ofNat_eq_natCast]; omega), cond_true, elem_enc hd, kind_E (kind_L kv ks) h f (by omega) (by omega) (by omega), nextI (by omega)]
    have hp0 : ∀ e ∈ encE h ks :: pre ks, okD e := fun e he => by
      rcases List.mem_cons.1 he with rfl | he
      · exact ⟨h, ks, rfl, by omega, by omega⟩
      · exact pre_ok ks (by omega) (by omega) e he
    have hp := filter_ok (isKind kv) hp0
    have hlen : ((encE h ks :: pre ks).filter (isKind kv)).length ≤ 1 + ks.size := by
      have := List.length_filter_le (isKind kv) (encE h ks :: pre ks)
      simp only [List.length_cons, pre_len] at this
      omega
    rw [sized_ok hp, decide_eq_true (show (out.length + ((encE h ks :: pre ks).filter (isKind kv)).length) * 105 ≤ 70368744177664 by omega)]
    simp only [Bool.and_self, cond_true]
    rw [kind_L kv r T (i + 1) f q _ b0 b1 b2 b3 b4 b5 b6 γ K hn (sized_append ho (sized_ok hp)) (by omega) (by omega) (by omega) (by omega) (by rw [List.length_append]; omega)]
    rw [List.append_assoc, ← List.filter_append, show i + 1 + r.len = i + (Fo.cons h ks r).len by simp only [Fo.len]; omega]
    rfl

theorem Kinds_eq {h : Hd} {ks : Fo} (hs : Small h ks) (kv : Int) (γ : Type) (K : List (List Dat) → Option γ) : Sp.ref10_Kinds fuel h.k h.n h.vk h.vn (mk h.vs) (mk h.tab) (mk h.col) ks.enc kv γ K = K ((encE h ks :: pre ks).filter (isKind kv)) := by
  have h1 := hs.size
  have h2 := hs.deep
  exact kind_E (kind_L kv ks) h fuel (by unfold fuel; omega) (by omega) (by omega) γ K
theorem kinds_eq {h : Hd} {ks : Fo} (hs : Small h ks) (kv : Int) (γ : Type) (K : List (List Dat) → Option γ) : Sp.expr_kinds h.k h.n h.vk h.vn (mk h.vs) (mk h.tab) (mk h.col) ks.enc kv γ K = K (cond (okE h ks) ((encE h ks :: pre ks).filter (isKind kv)) []) := by
  have h1 := hs.size
  have h2 := hs.deep
  unfold Sp.expr_kinds
  rw [Zq_Check, Check_eq hs]
  cases hok : okE h ks with
  | false => rfl
  | true =>
    show (kindsRes 0 (encE h ks) kv).bind K = _
    have : kindsRes 0 (encE h ks) kv = some ((encE h ks :: pre ks).filter (isKind kv)) := by
      show (match preK 100 (encE h ks) with
        | some ys => cond (decide (ys.length ≤ 1000)) (some (ys.filter (isKind kv))) none
        | none => none) = _
      rw [preK_eq h ks 100 (by omega)]
      show cond (decide ((encE h ks :: pre ks).length ≤ 1000)) _ none = _
      rw [decide_eq_true (show (encE h ks :: pre ks).length ≤ 1000 by simp only [List.length_cons, pre_len]; omega), cond_true]
    rw [this]
    rfl

/-! ### Safe -/
theorem bad_enc (h : Hd) (ks : Fo) : badD (encE h ks) = (decide (h.k = 4) || (decide (h.k = 3) && (decide (10 ≤ h.n) && decide (h.n ≤ 15)))) := rfl
def KF {γ : Type} (K : Bool → Option γ) : Ex → Bool → Int → Int → Int → Int → Int → ByteArray → ByteArray → ByteArray → List (List Dat) → Option γ :=
  fun z10 z11 _ _ _ _ _ _ _ _ _ => bif Ex.isExit z10 0 then K true else bif Ex.isRet z10 then K z11 else none
def SafeAt (f : Nat) (h : Hd) (ks : Fo) : Prop := ∀ (γ : Type) (K : Bool → Option γ),
  Sp.ref10_Safe f h.k h.n h.vk h.vn (mk h.vs) (mk h.tab) (mk h.col) ks.enc γ K = K (!((encE h ks :: pre ks).any badD))
def SafeL (F : Fo) : Prop := ∀ (T : Fo) (i f q : Nat) (v : Bool) (b0 b1 b2 b3 : Int) (b4 b5 b6 : ByteArray) (γ : Type) (K : Bool → Option γ),
  T.enc.drop i = F.enc → i + F.len ≤ 100000 → F.len < q → F.deep < f → F.deep ≤ 100000 → F.size ≤ 100000 →
  Sp.ref10_Safe_L0 (Sp.ref10_Safe f) q v (i : Int) b0 b1 b2 b3 b4 b5 b6 T.enc γ (KF K) = K (!((pre F).any badD))
theorem safe_E {ks : Fo} (ih : SafeL ks) (h : Hd) (f : Nat) (hf : ks.deep + 1 < f) (hd : ks.deep ≤ 100000) (hs : ks.size ≤ 100000) : SafeAt f h ks := by
  intro γ K
  obtain ⟨f, rfl⟩ : ∃ g, f = g + 1 := ⟨f - 1, by omega⟩
  rw [Sp.ref10_Safe]
  unfold Sp.B_ref10_Safe
  have hlen := Fo.len_size ks
  have hih := ih ks 0 f fuel false h.k h.n h.vk h.vn (mk h.vs) (mk h.tab) (mk h.col) γ K rfl (by omega) (by unfold fuel; omega) (by omega) hd hs
  rw [List.any_cons, bad_enc]
  cases decide (h.k = 4) with
  | true => rfl
  | false =>
  cases decide (h.k = 3) with
  | false => exact hih
  | true =>
  cases decide (10 ≤ h.n) with
  | false => exact hih
  | true =>
  cases decide (h.n ≤ 15) with
  | false => exact hih
  | true => rfl
theorem safe_L : ∀ F : Fo, SafeL F
  | .nil => by
    intro T i f q v b0 b1 b2 b3 b4 b5 b6 γ K hd hi hq hf hdp hs
    obtain ⟨q, rfl⟩ : ∃ g, q = g + 1 := ⟨q - 1, by omega⟩
    rw [Sp.ref10_Safe_L0]
    unfold Sp.B_ref10_Safe_L0
    have hl := drop_nil hd
    rw [decide_eq_false (show ¬ (i : Int) < Int.ofNat T.enc.length by simp only [Int.ofNat_eq_natCast]; omega), cond_false]
    rfl
  | .cons h ks r => by
    intro T i f q v b0 b1 b2 b3 b4 b5 b6 γ K hd hi hq hf hdp hs
    simp only [Fo.len, Fo.deep, Fo.size] at hi hq hf hdp hs
    obtain ⟨q, rfl⟩ : ∃ g, q = g + 1 := ⟨q - 1, by omega⟩
    rw [Sp.ref10_Safe_L0]
    unfold Sp.B_ref10_Safe_L0
    obtain ⟨hlt, _, hn⟩ := drop_enc hd
    rw [decide_eq_true (show (i : Int) < Int.ofNat T.enc.length by simp only [Int.ofNat_eq_natCast]; omega), cond_true, elem_enc hd, safe_E (safe_L ks) h f (by omega) (by omega) (by omega), nextI (by omega)]
    have e : (pre (.cons h ks r)).any badD = ((encE h ks :: pre ks).any badD || (pre r).any badD) := by
      show (encE h ks :: (pre ks ++ pre r)).any badD = _
      rw [← List.cons_append, List.any_append]
    rw [e]
    cases (encE h ks :: pre ks).any badD with
    | true => rfl
    | false => exact safe_L r T (i + 1) f q v b0 b1 b2 b3 b4 b5 b6 γ K hn (by omega) (by omega) (by omega) (by omega) (by omega)
theorem ref_Safe_eq {h : Hd} {ks : Fo} (hs : Small h ks) (γ : Type) (K : Bool → Option γ) : Sp.ref10_Safe fuel h.k h.n h.vk h.vn (mk h.vs) (mk h.tab) (mk h.col) ks.enc γ K = K (!((encE h ks :: pre ks).any badD)) := by
  have h1 := hs.size
  have h2 := hs.deep
  exact safe_E (safe_L ks) h fuel (by unfold fuel; omega) (by omega) (by omega) γ K
theorem Safe_eq {h : Hd} {ks : Fo} (hs : Small h ks) (γ : Type) (K : Bool → Option γ) : Sp.expr_Safe h.k h.n h.vk h.vn (mk h.vs) (mk h.tab) (mk h.col) ks.enc γ K = K (cond (okE h ks) (!((encE h ks :: pre ks).any badD)) false) := by
  have h1 := hs.size
  have h2 := hs.deep
  unfold Sp.expr_Safe
  rw [Zq_Check, Check_eq hs]
  cases hok : okE h ks with
  | false => rfl
  | true =>
    show (safeRes 0 (encE h ks)).bind K = _
    have : safeRes 0 (encE h ks) = some (!((encE h ks :: pre ks).any badD)) := by
      show (match preK 100 (encE h ks) with
        | some ys => some (!(ys.any badD))
        | none => none) = _
      rw [preK_eq h ks 100 (by omega)]
    rw [this]
    rfl

/-! ### parts -/
def Fo.pts : Fo → List (List (List Dat))
  | nil => []
  | cons h ks r => (if h.k = 3 ∧ h.n = 2 then ks.pts.getD 0 [] ++ ks.pts.getD 1 [] else [encE h ks]) :: r.pts
def partsE (h : Hd) (ks : Fo) : List (List Dat) := if h.k = 3 ∧ h.n = 2 then ks.pts.getD 0 [] ++ ks.pts.getD 1 [] else [encE h ks]
def PartAt (f : Nat) (h : Hd) (ks : Fo) : Prop := ∀ (γ : Type) (K : List (List Dat) → Option γ), Sp.expr_split f h.k h.n h.vk h.vn (mk h.vs) (mk h.tab) (mk h.col) ks.enc γ K = K (partsE h ks)
def PartL : Fo → Prop
  | .nil => True
  | .cons h ks r => ((∀ f, ks.deep + 2 ≤ f → PartAt f h ks) ∧ (∀ e ∈ partsE h ks, okD e) ∧ (partsE h ks).length ≤ 1 + ks.size) ∧ PartL r
theorem part_E {ks : Fo} (ih : PartL ks) (h : Hd) (hm : may h ks.len = true) (hs : ks.size ≤ 100000) (hd : ks.deep ≤ 100000) : (∀ f, ks.deep + 2 ≤ f → PartAt f h ks) ∧ (∀ e ∈ partsE h ks, okD e) ∧ (partsE h ks).length ≤ 1 + ks.size := by
  by_cases hk : h.k = 3 ∧ h.n = 2
  · rcases may_op hk.1 hm with ⟨hlen, hn⟩ | ⟨hlen, hn1, hn2, hn3⟩
    · omega
    · obtain ⟨h0, k0, h1, k1, rfl⟩ := len_two hlen
      obtain ⟨⟨i1, i2, i3⟩, ⟨j1, j2, j3⟩, _⟩ := ih
      have e : partsE h (Fo.cons h0 k0 (.cons h1 k1 .nil)) = partsE h0 k0 ++ partsE h1 k1 := by unfold partsE; rw [if_pos hk]; rfl
      rw [e]
      simp only [Fo.deep, Fo.size] at hs hd ⊢
      refine ⟨fun f hf γ K => ?_, fun x hx => ?_, ?_⟩
      · obtain ⟨f, rfl⟩ : ∃ g, f = g + 1 := ⟨f - 1, by omega⟩
        have p0 := i1 f (by omega)
        have p1 := j1 f (by omega)
        rw [Sp.expr_split]
        unfold Sp.B_expr_split
        rw [decide_eq_true hk.1, decide_eq_true hk.2, Bool.not_true, cond_false, cond_false, elem0, p0, elem1, p1, sized_ok i2, sized_ok j2, decide_eq_true (show ((partsE h0 k0).length + (partsE h1 k1).length) * 105 ≤ 70368744177664 by omega)]
        rw [e]
        rfl
      · rcases List.mem_append.1 hx with hx | hx
        · exact i2 x hx
        · exact j2 x hx
      · rw [List.length_append]; omega
  · have e : partsE h ks = [encE h ks] := by unfold partsE; rw [if_neg hk]
    rw [e]
    refine ⟨fun f hf γ K => ?_, fun x hx => ?_, by simp⟩
    · obtain ⟨f, rfl⟩ : ∃ g, f = g + 1 := ⟨f - 1, by omega⟩
      rw [Sp.expr_split]
      unfold Sp.B_expr_split
      rw [e]
      by_cases h3 : h.k = 3
      · rw [decide_eq_true h3, decide_eq_false (show ¬ h.n = 2 from fun hn => hk ⟨h3, hn⟩)]; rfl
      · rw [decide_eq_false h3]; rfl
    · rw [List.mem_singleton] at hx
      subst hx
      exact ⟨h, ks, rfl, hs, hd⟩
theorem part_L : ∀ F : Fo, wfL F = true → F.size ≤ 100000 → F.deep ≤ 100000 → PartL F
  | .nil, _, _, _ => trivial
  | .cons h ks r, hw, hs, hd => by
    simp only [wfL, Bool.and_eq_true] at hw
    simp only [Fo.size, Fo.deep] at hs hd
    exact ⟨part_E (part_L ks hw.2.1 (by omega) (by omega)) h hw.1 (by omega) (by omega), part_L r hw.2.2 (by omega) (by omega)⟩

theorem part_of {h : Hd} {ks : Fo} (hs : Small h ks) (hok : okE h ks = true) : (∀ f, ks.deep + 2 ≤ f → PartAt f h ks) ∧ (∀ e ∈ partsE h ks, okD e) ∧ (partsE h ks).length ≤ 1 + ks.size := by
  unfold okE at hok
  rw [Bool.and_eq_true] at hok
  have hw := wf_good _ _ _ hok.1
  simp only [wfL, Bool.and_eq_true] at hw
  have hz := hs.size
  have hd := hs.deep
  exact part_E (part_L ks hw.2.1 (by omega) (by omega)) h hw.1 (by omega) (by omega)

theorem Aggs_eq {h : Hd} {ks : Fo} (hs : Small h ks) (γ : Type) (K : List (List Dat) → Option γ) : Sp.expr_Aggs h.k h.n h.vk h.vn (mk h.vs) (mk h.tab) (mk h.col) ks.enc γ K = K (cond (okE h ks) ((encE h ks :: pre ks).filter (isKind 4)) []) := kinds_eq hs 4 γ K
theorem Parts_eq {h : Hd} {ks : Fo} (hs : Small h ks) (γ : Type) (K : List (List Dat) → Option γ) : Sp.expr_Parts h.k h.n h.vk h.vn (mk h.vs) (mk h.tab) (mk h.col) ks.enc γ K = K (cond (okE h ks) (partsE h ks) []) := by
  unfold Sp.expr_Parts Sp.B_expr_Parts
  have hd := hs.deep
  rw [Check_eq hs]
  cases hok : okE h ks with
  | false => rfl
  | true => exact (part_of hs hok).1 fuel (by unfold fuel; omega) γ K

end Go.Proofs.YtebfhpjnbmdcoaaGreatDoor
