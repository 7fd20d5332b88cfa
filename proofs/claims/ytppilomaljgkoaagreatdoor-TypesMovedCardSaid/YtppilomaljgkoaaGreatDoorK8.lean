/- Find: the program's is the reference's. -/
import Derived.Test.YtppilomaljgkoaaGreatDoorKC
set_option linter.unusedVariables false
set_option linter.unusedSimpArgs false
namespace Go.Proofs.YtppilomaljgkoaaGreatDoor
open Go Go.Aev Go.RowKit Go.Sort
structure Co where
  tab : List UInt8
  name : List UInt8
  ty : Int
def encC (c : Co) : List Dat := [.str (mk c.tab), .str (mk c.name), .int .i64 c.ty]
theorem elem_C {β : Type} {cs : List Co} {i : Nat} (hlt : i < cs.length) (G : ByteArray → ByteArray → Int → Option β) :
    (elemAt (cs.map encC) (i : Int) fun z => bif List.length z == 3 then cellAt z 0 fun z1 => asStr z1 fun a => cellAt z 1 fun z2 => asStr z2 fun b => cellAt z 2 fun z3 => Aev.asInt IntKind.i64 z3 fun c => G a b c else none) = G (mk cs[i].tab) (mk cs[i].name) cs[i].ty := by
  have he : (cs.map encC)[i]? = some (encC cs[i]) := by rw [List.getElem?_map, List.getElem?_eq_getElem hlt]; rfl
  rw [elemAt_some he]
  rfl
def hit (tab col : List UInt8) (c : Co) : Bool := decide (mk c.name = mk col) && (decide (mk tab = bs []) || decide (mk c.tab = mk tab))
def pos (p : Co → Bool) : List Co → Option Nat
  | [] => none
  | c :: r => cond (p c) (some 0) ((pos p r).map (· + 1))
theorem pos_isSome (p : Co → Bool) : ∀ l, (pos p l).isSome = l.any p
  | [] => rfl
  | c :: r => by
    unfold pos
    rw [List.any_cons, ← pos_isSome p r]
    cases p c <;> cases pos p r <;> rfl
theorem pos_lt (p : Co → Bool) : ∀ l i, pos p l = some i → i < l.length
  | [], i, h => by cases h
  | c :: r, i, h => by
    unfold pos at h
    cases hp : p c with
    | true => rw [hp] at h; cases h; simp
    | false =>
      rw [hp] at h
      cases hr : pos p r with
      | none => rw [hr] at h; cases h
      | some j => rw [hr] at h; cases h; have := pos_lt p r j hr; simp; omega
theorem hit_eq (c : Co) (tab col : List UInt8) (γ : Type) (K : Bool → ByteArray → ByteArray → Option γ) : Sp.types_Find_1 (mk c.tab) (mk c.name) c.ty (mk tab) (mk col) γ K = K (hit tab col c) (mk tab) (mk col) := by
  unfold Sp.types_Find_1 Sp.B_types_Find_1 hit
  cases decide (mk c.name = mk col) <;> cases decide (mk tab = bs []) <;> rfl
theorem index_loopC (cs : List Co) (tab col : List UInt8) (hl : cs.length ≤ 16777216) (v : Int) (γ : Type) (K : Ex → Int → Int → ByteArray → ByteArray → Option γ) : ∀ (d i n : Nat), cs.length = i + d → d < n →
    Sp.slices_IndexFunc_api_Column_api_Column_L0 n (cs.map encC) (cs.length : Int) v (i : Int) (mk tab) (mk col) γ K = match pos (hit tab col) (cs.drop i) with
      | some k => K .ret ((i + k : Nat) : Int) ((i + k : Nat) : Int) (mk tab) (mk col)
      | none => K (.exit 0) v (cs.length : Int) (mk tab) (mk col) := by
  intro d
  induction d with
  | zero =>
    intro i n hi hn
    obtain ⟨n, rfl⟩ : ∃ m, n = m + 1 := ⟨n - 1, by omega⟩
    have : cs.drop i = [] := List.drop_eq_nil_of_le (by omega)
    rw [this]
    unfold Sp.slices_IndexFunc_api_Column_api_Column_L0 Sp.B_slices_IndexFunc_api_Column_api_Column_L0
    rw [decide_eq_false (by omega)]
    simp only [cond_false, pos]
    rw [show (i : Int) = (cs.length : Int) by omega]
  | succ d ih =>
    intro i n hi hn
    obtain ⟨n, rfl⟩ : ∃ m, n = m + 1 := ⟨n - 1, by omega⟩
    have hlt : i < cs.length := by omega
    have hd : cs.drop i = cs[i] :: cs.drop (i + 1) := List.drop_eq_getElem_cons hlt
    have he : (cs.map encC)[i]? = some (encC cs[i]) := by rw [List.getElem?_map, List.getElem?_eq_getElem hlt]; rfl
    unfold Sp.slices_IndexFunc_api_Column_api_Column_L0 Sp.B_slices_IndexFunc_api_Column_api_Column_L0
    rw [decide_eq_true (by omega), cond_true, elem_C hlt]
    rw [hd, pos, hit_eq]
    cases hp : hit tab col cs[i] with
    | true => simp
    | false =>
      rw [cond_false, cond_false, nextI (by omega), ih (i + 1) n (by omega) (by omega)]
      cases pos (hit tab col) (cs.drop (i + 1)) with
      | none => rfl
      | some k => simp only [Option.map_some]; rw [show i + 1 + k = i + (k + 1) by omega]
theorem index_eqC (cs : List Co) (tab col : List UInt8) (hl : cs.length ≤ 1000000) (γ : Type) (K : Int → ByteArray → ByteArray → Option γ) : Sp.slices_IndexFunc_api_Column_api_Column (cs.map encC) (mk tab) (mk col) γ K = K (match pos (hit tab col) cs with
    | some k => (k : Int)
    | none => -1) (mk tab) (mk col) := by
  unfold Sp.slices_IndexFunc_api_Column_api_Column Sp.B_slices_IndexFunc_api_Column_api_Column
  rw [List.length_map]
  have := index_loopC cs tab col (by omega) 0 γ (fun (z5 : Ex) (z6 z7 : Int) (z8 z9 : ByteArray) => bif Ex.isExit z5 0 then K (-1) z8 z9 else bif Ex.isRet z5 then K z6 z8 z9 else none) cs.length 0 fuel (by omega) (by unfold fuel; omega)
  rw [List.drop_zero] at this
  refine Eq.trans this ?_
  cases pos (hit tab col) cs with
  | none => rfl
  | some k => simp [Ex.isExit, Ex.isRet]
theorem sized_C (cs : List Co) : sized (cs.map encC) 3 = true := by
  unfold sized
  rw [List.all_eq_true]
  intro e he
  obtain ⟨c, _, rfl⟩ := List.mem_map.1 he
  rfl
def fnd (cs : List Co) (tab col : List UInt8) : Option Int :=
  match pos (hit tab col) cs with
  | none => none
  | some i => cond (decide (i < 32) && !(cs.drop (i + 1)).any (hit tab col)) (some (i : Int)) none
theorem fnd_lt {cs : List Co} {tab col : List UInt8} {n : Int} (h : fnd cs tab col = some n) : 0 ≤ n ∧ n < 32 ∧ n < cs.length := by
  unfold fnd at h
  cases hp : pos (hit tab col) cs with
  | none => rw [hp] at h; cases h
  | some i =>
    rw [hp] at h
    simp only at h
    have h1 := pos_lt _ _ _ hp
    by_cases h2 : i < 32
    · cases h3 : (cs.drop (i + 1)).any (hit tab col) with
      | true => rw [decide_eq_true h2, h3] at h; cases h
      | false => rw [decide_eq_true h2, h3] at h; cases h; omega
    · rw [decide_eq_false h2] at h; cases h
theorem Find_eq (cs : List Co) (tab col : List UInt8) (hl : cs.length ≤ 100000) (γ : Type) (K : Int → Int → Option γ) : Sp.types_Find (cs.map encC) (mk tab) (mk col) γ K = match fnd cs tab col with
    | some n => K n 0
    | none => K 0 140 := by
  unfold Sp.types_Find Sp.B_types_Find fnd
  rw [index_eqC cs tab col (by omega)]
  cases hp : pos (hit tab col) cs with
  | none => rfl
  | some i =>
    simp only
    have h1 := pos_lt _ _ _ hp
    rw [decide_eq_false (show ¬ (i : Int) < 0 by omega), cond_false]
    by_cases h2 : i < 32
    · rw [decide_eq_false (show ¬ (32 : Int) ≤ (i : Int) by omega), cond_false, decide_eq_true h2, nextI (by omega), List.length_map]
      rw [decide_eq_true (show (0 : Int) ≤ ((i + 1 : Nat) : Int) by omega), decide_eq_true (show ((i + 1 : Nat) : Int) ≤ Int.ofNat cs.length by simp only [Int.ofNat_eq_natCast]; omega), decide_eq_true (Int.le_refl _), sized_C]
      simp only [Bool.and_self, cond_true, Bool.true_and, Int.toNat_natCast]
      rw [show Int.toNat (Int.ofNat cs.length) = cs.length from rfl, List.take_of_length_le (by simp), ← List.map_drop]
      unfold Sp.slices_ContainsFunc_api_Column_api_Column Sp.B_slices_ContainsFunc_api_Column_api_Column
      rw [index_eqC _ tab col (by simp; omega)]
      rw [← pos_isSome]
      cases pos (hit tab col) (cs.drop (i + 1)) with
      | none => rfl
      | some k => simp
    · rw [decide_eq_true (show (32 : Int) ≤ (i : Int) by omega), cond_true, decide_eq_false h2]
      rfl
def KFd {γ : Type} (K : Int → Bool → Option γ) : Ex → Int → Bool → Int → Int → Option γ := fun z5 z6 z7 z8 z9 => bif Ex.isExit z5 0 then bif decide (z8 < 0) then K 0 false else bif decide (32 ≤ z8) then K 0 false else K z8 true else bif Ex.isRet z5 then K z6 z7 else none
theorem ref_step {γ : Type} (cs : List Co) (tab col : List UInt8) (i n : Nat) (hlt : i < cs.length) (hl : cs.length ≤ 16777216) (at_ : Int) (K : Int → Bool → Option γ) :
    Sp.ref14_Find_L0 (n + 1) (cs.map encC) (mk tab) (mk col) 0 false at_ (i : Int) γ (KFd K) = cond (hit tab col cs[i]) (bif decide (0 ≤ at_) then K 0 false else Sp.ref14_Find_L0 n (cs.map encC) (mk tab) (mk col) 0 false (i : Int) ((i + 1 : Nat) : Int) γ (KFd K)) (Sp.ref14_Find_L0 n (cs.map encC) (mk tab) (mk col) 0 false at_ ((i + 1 : Nat) : Int) γ (KFd K)) := by
  have he : (cs.map encC)[i]? = some (encC cs[i]) := by rw [List.getElem?_map, List.getElem?_eq_getElem hlt]; rfl
  rw [Sp.ref14_Find_L0]
  unfold Sp.B_ref14_Find_L0
  rw [List.length_map, decide_eq_true (by simp only [Int.ofNat_eq_natCast]; omega), cond_true, elemAt_some he, nextI (by omega)]
  show (bif !decide (mk cs[i].name = mk col) then _ else _) = _
  unfold hit
  cases decide (mk cs[i].name = mk col) with
  | false => rfl
  | true =>
    cases decide (mk tab = bs []) with
    | true =>
      cases decide (0 ≤ at_) <;> rfl
    | false =>
      show (elemAt (cs.map encC) (i : Int) _) = _
      rw [elemAt_some he]
      show (bif !decide (mk cs[i].tab = mk tab) then _ else _) = _
      cases decide (mk cs[i].tab = mk tab) with
      | false => rfl
      | true => cases decide (0 ≤ at_) <;> rfl
theorem ref_end {γ : Type} (cs : List Co) (tab col : List UInt8) (n : Nat) (at_ : Int) (K : Int → Bool → Option γ) :
    Sp.ref14_Find_L0 (n + 1) (cs.map encC) (mk tab) (mk col) 0 false at_ ((cs.length : Nat) : Int) γ (KFd K) = bif decide (at_ < 0) then K 0 false else bif decide (32 ≤ at_) then K 0 false else K at_ true := by
  rw [Sp.ref14_Find_L0]
  unfold Sp.B_ref14_Find_L0
  rw [List.length_map, decide_eq_false (by simp only [Int.ofNat_eq_natCast]; omega), cond_false]
  rfl
theorem ref_more {γ : Type} (cs : List Co) (tab col : List UInt8) (hl : cs.length ≤ 16777216) (at_ : Int) (ha : 0 ≤ at_) (K : Int → Bool → Option γ) : ∀ (d i n : Nat), cs.length = i + d → d < n →
    Sp.ref14_Find_L0 n (cs.map encC) (mk tab) (mk col) 0 false at_ (i : Int) γ (KFd K) = cond (decide (at_ < 32) && !(cs.drop i).any (hit tab col)) (K at_ true) (K 0 false) := by
  intro d
  induction d with
  | zero =>
    intro i n hi hn
    obtain ⟨n, rfl⟩ : ∃ m, n = m + 1 := ⟨n - 1, by omega⟩
    have : cs.drop i = [] := List.drop_eq_nil_of_le (by omega)
    obtain rfl : i = cs.length := by omega
    rw [this, ref_end, decide_eq_false (by omega), cond_false]
    by_cases h : at_ < 32
    · rw [decide_eq_true h, decide_eq_false (by omega)]; rfl
    · rw [decide_eq_false h, decide_eq_true (by omega)]; rfl
  | succ d ih =>
    intro i n hi hn
    obtain ⟨n, rfl⟩ : ∃ m, n = m + 1 := ⟨n - 1, by omega⟩
    have hlt : i < cs.length := by omega
    have hd : cs.drop i = cs[i] :: cs.drop (i + 1) := List.drop_eq_getElem_cons hlt
    rw [ref_step cs tab col i n hlt hl, hd, List.any_cons, ih (i + 1) n (by omega) (by omega), decide_eq_true ha]
    cases hit tab col cs[i] with
    | true => simp
    | false => simp
theorem ref_first {γ : Type} (cs : List Co) (tab col : List UInt8) (hl : cs.length ≤ 16777216) (K : Int → Bool → Option γ) : ∀ (d i n : Nat), cs.length = i + d → d < n →
    Sp.ref14_Find_L0 n (cs.map encC) (mk tab) (mk col) 0 false (-1) (i : Int) γ (KFd K) = match pos (hit tab col) (cs.drop i) with
      | none => K 0 false
      | some k => cond (decide (i + k < 32) && !(cs.drop (i + k + 1)).any (hit tab col)) (K ((i + k : Nat) : Int) true) (K 0 false) := by
  intro d
  induction d with
  | zero =>
    intro i n hi hn
    obtain ⟨n, rfl⟩ : ∃ m, n = m + 1 := ⟨n - 1, by omega⟩
    have : cs.drop i = [] := List.drop_eq_nil_of_le (by omega)
    obtain rfl : i = cs.length := by omega
    rw [this, ref_end]
    rfl
  | succ d ih =>
    intro i n hi hn
    obtain ⟨n, rfl⟩ : ∃ m, n = m + 1 := ⟨n - 1, by omega⟩
    have hlt : i < cs.length := by omega
    have hd : cs.drop i = cs[i] :: cs.drop (i + 1) := List.drop_eq_getElem_cons hlt
    rw [ref_step cs tab col i n hlt hl, hd, pos]
    cases hit tab col cs[i] with
    | true =>
      rw [cond_true, cond_true, decide_eq_false (by decide), cond_false, ref_more cs tab col hl (i : Int) (by omega) K d (i + 1) n (by omega) (by omega)]
      simp only [Nat.add_zero]
      rw [show decide ((i : Int) < 32) = decide (i < 32) by rw [decide_eq_decide]; omega]
    | false =>
      rw [cond_false, cond_false, ih (i + 1) n (by omega) (by omega)]
      cases pos (hit tab col) (cs.drop (i + 1)) with
      | none => rfl
      | some k => simp only [Option.map_some]; rw [show i + 1 + k = i + (k + 1) by omega]
theorem ref_Find_eq (cs : List Co) (tab col : List UInt8) (hl : cs.length ≤ 100000) (γ : Type) (K : Int → Bool → Option γ) : Sp.ref14_Find (cs.map encC) (mk tab) (mk col) γ K = match fnd cs tab col with
    | some n => K n true
    | none => K 0 false := by
  unfold Sp.ref14_Find Sp.B_ref14_Find fnd
  refine (ref_first cs tab col (by omega) K cs.length 0 fuel (by omega) (by unfold fuel; omega)).trans ?_
  rw [List.drop_zero]
  cases pos (hit tab col) cs with
  | none => rfl
  | some k =>
    simp only [Nat.zero_add]
    cases (decide (k < 32) && !(cs.drop (k + 1)).any (hit tab col)) <;> rfl
end Go.Proofs.YtppilomaljgkoaaGreatDoor
