/- ExprLooks: its plain law. -/
import Derived.Test.YtppilomaljgkoaaGreatDoorKE
set_option linter.unusedVariables false
set_option linter.unusedSimpArgs false
namespace Go.Proofs.YtppilomaljgkoaaGreatDoor
open Go Go.Aev Go.RowKit Go.Sort
def eqH (h h' : Hd) : Bool := decide (h.k = h'.k) && (decide (h.n = h'.n) && ((decide (h.vk = h'.vk) && (decide (h.vn = h'.vn) && (decide (mk h.vs = mk h'.vs) && true))) && (decide (mk h.tab = mk h'.tab) && decide (mk h.col = mk h'.col))))
def sameL : Fo → Fo → Bool
  | .cons h ks r, .cons h' ks' r' => (eqH h h' && (decide (Int.ofNat ks.len = Int.ofNat ks'.len) && sameL ks ks')) && sameL r r'
  | .nil, .nil => true
  | _, _ => false
def sameE (h : Hd) (ks : Fo) (h' : Hd) (ks' : Fo) : Bool := eqH h h' && (decide (Int.ofNat ks.len = Int.ofNat ks'.len) && sameL ks ks')
def KS {γ : Type} (K : Bool → Option γ) : Ex → Bool → Int → Int → Int → Int → Int → ByteArray → ByteArray → ByteArray → List (List Dat) → Int → Int → Int → Int → ByteArray → ByteArray → ByteArray → List (List Dat) → Option γ :=
  fun z18 z19 _ _ _ _ _ _ _ _ _ _ _ _ _ _ _ _ _ => bif Ex.isExit z18 0 then K true else bif Ex.isRet z18 then K z19 else none
def SameAt (f : Nat) (h : Hd) (ks : Fo) (h' : Hd) (ks' : Fo) : Prop := ∀ (γ : Type) (K : Bool → Option γ),
  Sp.ref10_Same f h.k h.n h.vk h.vn (mk h.vs) (mk h.tab) (mk h.col) ks.enc h'.k h'.n h'.vk h'.vn (mk h'.vs) (mk h'.tab) (mk h'.col) ks'.enc γ K = K (sameE h ks h' ks')
def SameL (F F' : Fo) : Prop := ∀ (T T' : Fo) (i f q : Nat) (v : Bool) (b0 b1 b2 b3 : Int) (b4 b5 b6 : ByteArray) (c0 c1 c2 c3 : Int) (c4 c5 c6 : ByteArray) (γ : Type) (K : Bool → Option γ),
  T.enc.drop i = F.enc → T'.enc.drop i = F'.enc → F.len = F'.len → i + F.len ≤ 1000000 → F.len < q → F.deep < f → F.size ≤ 1000000 →
  Sp.ref10_Same_L0 (Sp.ref10_Same f) q v (i : Int) b0 b1 b2 b3 b4 b5 b6 T.enc c0 c1 c2 c3 c4 c5 c6 T'.enc γ (KS K) = K (sameL F F')
theorem same_E {ks ks' : Fo} (ih : ks.len = ks'.len → SameL ks ks') (h h' : Hd) (f : Nat) (hf : ks.deep + 1 < f) (hs : ks.size ≤ 1000000) : SameAt f h ks h' ks' := by
  intro γ K
  obtain ⟨f, rfl⟩ : ∃ g, f = g + 1 := ⟨f - 1, by omega⟩
  rw [Sp.ref10_Same]
  unfold Sp.B_ref10_Same sameE eqH
  rw [Fo.enc_len, Fo.enc_len]
  cases decide (h.k = h'.k) with
  | false => rfl
  | true =>
  cases decide (h.n = h'.n) with
  | false => rfl
  | true =>
  cases (decide (h.vk = h'.vk) && (decide (h.vn = h'.vn) && (decide (mk h.vs = mk h'.vs) && true))) with
  | false => rfl
  | true =>
  cases decide (mk h.tab = mk h'.tab) with
  | false => rfl
  | true =>
  cases decide (mk h.col = mk h'.col) with
  | false => rfl
  | true =>
  by_cases hl : Int.ofNat ks.len = Int.ofNat ks'.len
  · rw [decide_eq_true hl]
    have hl' : ks.len = ks'.len := Int.ofNat.inj hl
    have hlen := Fo.len_size ks
    exact ih hl' ks ks' 0 f fuel false _ _ _ _ _ _ _ _ _ _ _ _ _ _ γ K rfl rfl hl' (by omega) (by unfold fuel; omega) (by omega) hs
  · rw [decide_eq_false hl]; rfl
theorem same_L : ∀ F F' : Fo, F.len = F'.len → SameL F F'
  | .nil, F', hl => by
    intro T T' i f q v b0 b1 b2 b3 b4 b5 b6 c0 c1 c2 c3 c4 c5 c6 γ K hd hd' hlen hi hq hf hs
    cases F' with
    | cons _ _ _ => simp only [Fo.len] at hl; omega
    | nil =>
    obtain ⟨q, rfl⟩ : ∃ g, q = g + 1 := ⟨q - 1, by omega⟩
    rw [Sp.ref10_Same_L0]
    unfold Sp.B_ref10_Same_L0
    have hl := drop_nil hd
    rw [decide_eq_false (show ¬ (i : Int) < Int.ofNat T.enc.length by simp only [Int.ofNat_eq_natCast]; omega), cond_false]
    rfl
  | .cons h ks r, F', hl => by
    intro T T' i f q v b0 b1 b2 b3 b4 b5 b6 c0 c1 c2 c3 c4 c5 c6 γ K hd hd' hlen hi hq hf hs
    cases F' with
    | nil => simp only [Fo.len] at hl; omega
    | cons h' ks' r' =>
    simp only [Fo.len, Fo.deep, Fo.size] at hl hi hq hf hs
    obtain ⟨q, rfl⟩ : ∃ g, q = g + 1 := ⟨q - 1, by omega⟩
    rw [Sp.ref10_Same_L0]
    unfold Sp.B_ref10_Same_L0
    obtain ⟨hlt, _, hn⟩ := drop_enc hd
    obtain ⟨_, _, hn'⟩ := drop_enc hd'
    rw [decide_eq_true (show (i : Int) < Int.ofNat T.enc.length by simp only [Int.ofNat_eq_natCast]; omega), cond_true, elem_enc hd, elem_enc hd', same_E (fun h0 => same_L ks ks' h0) h h' f (by omega) (by omega), nextI (by omega)]
    show (bif !(sameE h ks h' ks') then _ else _) = K (sameE h ks h' ks' && sameL r r')
    cases sameE h ks h' ks' with
    | false => rfl
    | true => exact same_L r r' (by omega) T T' (i + 1) f q v b0 b1 b2 b3 b4 b5 b6 c0 c1 c2 c3 c4 c5 c6 γ K hn hn' (by omega) (by omega) (by omega) (by omega) (by omega)
theorem Same_eq {h h' : Hd} {ks ks' : Fo} (hs : ks.size ≤ 100000) (hd : ks.deep ≤ 100000) (γ : Type) (K : Bool → Option γ) : Sp.ref10_Same fuel h.k h.n h.vk h.vn (mk h.vs) (mk h.tab) (mk h.col) ks.enc h'.k h'.n h'.vk h'.vn (mk h'.vs) (mk h'.tab) (mk h'.col) ks'.enc γ K = K (sameE h ks h' ks') :=
  same_E (fun h0 => same_L ks ks' h0) h h' fuel (by unfold fuel; omega) (by omega) γ K
theorem eqH_self (h : Hd) : eqH h h = true := by unfold eqH; simp
theorem sameL_self : ∀ F : Fo, sameL F F = true
  | .nil => rfl
  | .cons h ks r => by
    rw [sameL, eqH_self, sameL_self ks, sameL_self r]
    simp
theorem sameE_self (h : Hd) (ks : Fo) : sameE h ks h ks = true := by unfold sameE; rw [eqH_self, sameL_self]; simp
def wfL : Fo → Bool
  | .nil => true
  | .cons h ks r => may h ks.len && (wfL ks && wfL r)
theorem wf_good : ∀ (F : Fo) (d : Nat) (a : Bool), goodL F d a = true → wfL F = true
  | .nil, _, _, _ => rfl
  | .cons h ks r, d, a, hg => by
    simp only [goodL, Bool.and_eq_true] at hg
    simp only [wfL, Bool.and_eq_true]
    exact ⟨hg.1.2.1, wf_good ks _ _ hg.1.2.2.2, wf_good r _ _ hg.2⟩
theorem may_op {h : Hd} {m : Nat} (hk : h.k = 3) (hm : may h m = true) : (m = 1 ∧ (h.n = 3 ∨ h.n = 15 ∨ h.n = 16 ∨ h.n = 17)) ∨ (m = 2 ∧ 1 ≤ h.n ∧ h.n < 15 ∧ h.n ≠ 3) := by
  unfold may at hm
  rw [if_neg (by omega), if_neg (by omega), if_pos hk] at hm
  simp only [Bool.and_eq_true, decide_eq_true_eq] at hm
  obtain ⟨_, _, _, h1, h2⟩ := hm
  unfold arity at h1 h2
  split at h2
  · left; omega
  · rename_i h3
    rw [if_neg h3] at h1
    split at h2
    · right; omega
    · rename_i h4; rw [if_neg h4] at h1; omega
theorem may_agg {h : Hd} {m : Nat} (hk : h.k = 4) (hm : may h m = true) : (m = 0 ∧ h.n = 1) ∨ (m = 1 ∧ 2 ≤ h.n ∧ h.n ≤ 5) := by
  unfold may at hm
  rw [if_neg (by omega), if_neg (by omega), if_neg (by omega), if_pos hk] at hm
  simp only [Bool.and_eq_true, decide_eq_true_eq] at hm
  obtain ⟨_, _, _, h1, h2, h3⟩ := hm
  split at h3 <;> omega
theorem may_kind {h : Hd} {m : Nat} (hm : may h m = true) : h.k = 1 ∨ h.k = 2 ∨ h.k = 3 ∨ h.k = 4 := by
  unfold may at hm
  split at hm
  · omega
  · split at hm
    · omega
    · split at hm
      · omega
      · split at hm
        · omega
        · cases hm
def okD (e : List Dat) : Prop := ∃ h ks, e = encE h ks ∧ ks.size ≤ 100000 ∧ ks.deep ≤ 100000
theorem elem_at {β : Type} {l : List (List Dat)} {i : Nat} {h : Hd} {ks : Fo} (hg : l[i]? = some (encE h ks)) (G : Int → Int → Int → Int → ByteArray → ByteArray → ByteArray → List (List Dat) → Option β) :
    (elemAt l (i : Int) fun z => bif List.length z == 8 then cellAt z 0 fun z1 => Aev.asInt IntKind.i64 z1 fun a => cellAt z 1 fun z2 => Aev.asInt IntKind.i64 z2 fun b => cellAt z 2 fun z3 => Aev.asInt IntKind.i64 z3 fun c => cellAt z 3 fun z4 => Aev.asInt IntKind.i64 z4 fun d => cellAt z 4 fun z5 => asStr z5 fun s => cellAt z 5 fun z6 => asStr z6 fun t => cellAt z 6 fun z7 => asStr z7 fun u => cellAt z 7 fun z8 => asSl z8 fun l => G a b c d s t u l else none) =
      G h.k h.n h.vk h.vn (mk h.vs) (mk h.tab) (mk h.col) ks.enc := by
  rw [elemAt_some hg]
  rfl
def pre : Fo → List (List Dat)
  | .nil => []
  | .cons h ks r => encE h ks :: (pre ks ++ pre r)
theorem pre_len : ∀ F : Fo, (pre F).length = F.size
  | .nil => rfl
  | .cons h ks r => by simp only [pre, List.length_cons, List.length_append, pre_len ks, pre_len r, Fo.size]; omega
theorem pre_ok : ∀ F : Fo, F.size ≤ 100000 → F.deep ≤ 100000 → ∀ e ∈ pre F, okD e
  | .nil, _, _, e, he => by cases he
  | .cons h ks r, hs, hd, e, he => by
    simp only [Fo.size, Fo.deep] at hs hd
    simp only [pre, List.mem_cons, List.mem_append] at he
    rcases he with rfl | he | he
    · exact ⟨h, ks, rfl, by omega, by omega⟩
    · exact pre_ok ks (by omega) (by omega) e he
    · exact pre_ok r (by omega) (by omega) e he
theorem ok_len {e : List Dat} (h : okD e) : e.length = 8 := by obtain ⟨_, _, rfl, _⟩ := h; rfl
theorem sized_ok {l : List (List Dat)} (h : ∀ e ∈ l, okD e) : sized l 8 = true := by
  unfold sized
  rw [List.all_eq_true]
  exact fun e he => by simpa using ok_len (h e he)
theorem preL_eq : ∀ (F : Fo) (n : Nat), F.deep ≤ n → preL (preK n) F.enc = some (pre F)
  | .nil, _, _ => rfl
  | .cons h ks r, n, hn => by
    simp only [Fo.deep] at hn
    obtain ⟨m, rfl⟩ : ∃ m, n = m + 1 := ⟨n - 1, by omega⟩
    have h1 := preL_eq ks m (by omega)
    have h2 := preL_eq r (m + 1) (by omega)
    show (match preK (m + 1) (encE h ks), preL (preK (m + 1)) r.enc with
      | some a, some b => some (a ++ b)
      | _, _ => none) = _
    have h3 : preK (m + 1) (encE h ks) = some (encE h ks :: pre ks) := by
      show (match preL (preK m) ks.enc with
        | some l => some (encE h ks :: l)
        | none => none) = _
      rw [h1]
    rw [h2, h3]
    rfl
theorem preK_eq (h : Hd) (ks : Fo) (n : Nat) (hn : ks.deep + 1 ≤ n) : preK n (encE h ks) = some (encE h ks :: pre ks) := by
  obtain ⟨m, rfl⟩ : ∃ m, n = m + 1 := ⟨n - 1, by omega⟩
  show (match preL (preK m) ks.enc with
    | some l => some (encE h ks :: l)
    | none => none) = _
  rw [preL_eq ks m (by omega)]
def KindAt (f : Nat) (h : Hd) (ks : Fo) (kv : Int) : Prop := ∀ (γ : Type) (K : List (List Dat) → Option γ),
  Sp.ref10_Kinds f h.k h.n h.vk h.vn (mk h.vs) (mk h.tab) (mk h.col) ks.enc kv γ K = K ((encE h ks :: pre ks).filter (isKind kv))
def KindL (F : Fo) (kv : Int) : Prop := ∀ (T : Fo) (i f q : Nat) (out : List (List Dat)) (b0 b1 b2 b3 : Int) (b4 b5 b6 : ByteArray) (γ : Type) (K : Ex → List (List Dat) → Int → Int → Int → Int → Int → ByteArray → ByteArray → ByteArray → List (List Dat) → Option γ),
  T.enc.drop i = F.enc → sized out 8 = true → i + F.len ≤ 100000 → F.len < q → F.deep < f → F.deep ≤ 100000 → out.length + F.size ≤ 100000 →
  Sp.ref10_Kinds_L0 (Sp.ref10_Kinds f) q kv out (i : Int) b0 b1 b2 b3 b4 b5 b6 T.enc γ K = K (.exit 0) (out ++ (pre F).filter (isKind kv)) ((i + F.len : Nat) : Int) b0 b1 b2 b3 b4 b5 b6 T.enc
theorem sized_append {a b : List (List Dat)} {n : Nat} (ha : sized a n = true) (hb : sized b n = true) : sized (a ++ b) n = true := by
  unfold sized at *
  rw [List.all_append, ha, hb]; rfl
theorem filter_ok {l : List (List Dat)} (p : List Dat → Bool) (h : ∀ e ∈ l, okD e) : ∀ e ∈ l.filter p, okD e := fun e he => h e (List.mem_filter.1 he).1
theorem kind_E {ks : Fo} {kv : Int} (ih : KindL ks kv) (h : Hd) (f : Nat) (hf : ks.deep + 1 < f) (hd : ks.deep ≤ 100000) (hs : ks.size < 100000) : KindAt f h ks kv := by
  intro γ K
  obtain ⟨f, rfl⟩ : ∃ g, f = g + 1 := ⟨f - 1, by omega⟩
  rw [Sp.ref10_Kinds]
  unfold Sp.B_ref10_Kinds
  have hlen := Fo.len_size ks
  have hpre := filter_ok (isKind kv) (pre_ok ks (by omega) (by omega))
  have hk : isKind kv (encE h ks) = decide (h.k = kv) := rfl
  by_cases hkv : h.k = kv
  · rw [decide_eq_true hkv, cond_true]
    refine (ih ks 0 f fuel [encE h ks] h.k h.n h.vk h.vn (mk h.vs) (mk h.tab) (mk h.col) γ _ rfl rfl (by omega) (by unfold fuel; omega) (by omega) hd (by simp only [List.length_singleton]; omega)).trans ?_
    rw [sized_append (a := [encE h ks]) rfl (sized_ok hpre), List.filter_cons, hk, decide_eq_true hkv]
    rfl
  · rw [decide_eq_false hkv, cond_false]
    refine (ih ks 0 f fuel [] h.k h.n h.vk h.vn (mk h.vs) (mk h.tab) (mk h.col) γ _ rfl rfl (by omega) (by unfold fuel; omega) (by omega) hd (by simp only [List.length_nil]; omega)).trans ?_
    rw [List.nil_append, sized_ok hpre, List.filter_cons, hk, decide_eq_false hkv]
    rfl
theorem kind_L (kv : Int) : ∀ F : Fo, KindL F kv
  | .nil => by
    intro T i f q out b0 b1 b2 b3 b4 b5 b6 γ K hd ho hi hq hf hdp hs
    obtain ⟨q, rfl⟩ : ∃ g, q = g + 1 := ⟨q - 1, by omega⟩
    rw [Sp.ref10_Kinds_L0]
    unfold Sp.B_ref10_Kinds_L0
    have hl := drop_nil hd
    rw [ho, cond_true, decide_eq_false (show ¬ (i : Int) < Int.ofNat T.enc.length by simp only [Int.ofNat_eq_natCast]; omega), cond_false]
    simp only [pre, List.filter_nil, List.append_nil, Fo.len, Nat.add_zero]
  | .cons h ks r => by
    intro T i f q out b0 b1 b2 b3 b4 b5 b6 γ K hd ho hi hq hf hdp hs
    simp only [Fo.len, Fo.deep, Fo.size] at hi hq hf hdp hs
    obtain ⟨q, rfl⟩ : ∃ g, q = g + 1 := ⟨q - 1, by omega⟩
    rw [Sp.ref10_Kinds_L0]
    unfold Sp.B_ref10_Kinds_L0
    obtain ⟨hlt, _, hn⟩ := drop_enc hd
    rw [ho, cond_true, decide_eq_true (show (i : Int) < Int.ofNat T.enc.length by simp only [Int.ofNat_eq_natCast]; omega), cond_true, elem_enc hd, kind_E (kind_L kv ks) h f (by omega) (by omega) (by omega), nextI (by omega)]
    have hp0 : ∀ e ∈ encE h ks :: pre ks, okD e := fun e he => by
      rcases List.mem_cons.1 he with rfl | he
      · exact ⟨h, ks, rfl, by omega, by omega⟩
      · exact pre_ok ks (by omega) (by omega) e he
    have hp := filter_ok (isKind kv) hp0
    have hlen : ((encE h ks :: pre ks).filter (isKind kv)).length ≤ 1 + ks.size := by
      have := List.length_filter_le (isKind kv) (encE h ks :: pre ks)
      simp only [List.length_cons, pre_len] at this
      omega
    rw [sized_ok hp, decide_eq_true (show (out.length + ((encE h ks :: pre ks).filter (isKind kv)).length) * 105 ≤ 70368744177664 by omega)]
    simp only [Bool.and_self, cond_true]
    rw [kind_L kv r T (i + 1) f q _ b0 b1 b2 b3 b4 b5 b6 γ K hn (sized_append ho (sized_ok hp)) (by omega) (by omega) (by omega) (by omega) (by rw [List.length_append]; omega)]
    rw [List.append_assoc, ← List.filter_append, show i + 1 + r.len = i + (Fo.cons h ks r).len by simp only [Fo.len]; omega]
    rfl
theorem Kinds_eq {h : Hd} {ks : Fo} (hs : Small h ks) (kv : Int) (γ : Type) (K : List (List Dat) → Option γ) : Sp.ref10_Kinds fuel h.k h.n h.vk h.vn (mk h.vs) (mk h.tab) (mk h.col) ks.enc kv γ K = K ((encE h ks :: pre ks).filter (isKind kv)) := by
  have h1 := hs.size
  have h2 := hs.deep
  exact kind_E (kind_L kv ks) h fuel (by unfold fuel; omega) (by omega) (by omega) γ K
theorem kinds_eq {h : Hd} {ks : Fo} (hs : Small h ks) (kv : Int) (γ : Type) (K : List (List Dat) → Option γ) : Sp.expr_kinds h.k h.n h.vk h.vn (mk h.vs) (mk h.tab) (mk h.col) ks.enc kv γ K = K (cond (okE h ks) ((encE h ks :: pre ks).filter (isKind kv)) []) := by
  have h1 := hs.size
  have h2 := hs.deep
  unfold Sp.expr_kinds
  rw [Zq_Check, Check_eq hs]
  cases hok : okE h ks with
  | false => rfl
  | true =>
    show (kindsRes 0 (encE h ks) kv).bind K = _
    have : kindsRes 0 (encE h ks) kv = some ((encE h ks :: pre ks).filter (isKind kv)) := by
      show (match preK 100 (encE h ks) with
        | some ys => cond (decide (ys.length ≤ 1000)) (some (ys.filter (isKind kv))) none
        | none => none) = _
      rw [preK_eq h ks 100 (by omega)]
      show cond (decide ((encE h ks :: pre ks).length ≤ 1000)) _ none = _
      rw [decide_eq_true (show (encE h ks :: pre ks).length ≤ 1000 by simp only [List.length_cons, pre_len]; omega), cond_true]
    rw [this]
    rfl
end Go.Proofs.YtppilomaljgkoaaGreatDoor
