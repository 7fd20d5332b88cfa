/- A deep evaluator for the code of the model, and its soundness: part 5. -/
import Derived.Test.YtimdilbcijgadaaGreatDoorAevD
set_option linter.unusedVariables false
set_option linter.unusedSimpArgs false
section
/- Values and rows, as the laws speak of them: how they stand. -/
set_option linter.unusedVariables false
set_option linter.unusedSimpArgs false
namespace Go.Aev

namespace V
/-- may a value be? -/
def ok (k n : Int) (s : ByteArray) : Bool :=
  (decide (k = 0) && decide (n = 0) && decide (s = bs [])) || (decide (k = 1) && (decide (n = 0) || decide (n = 1)) && decide (s = bs [])) ||
  (decide (k = 2) && decide (-9007199254740991 ≤ n) && decide (n ≤ 9007199254740991) && decide (s = bs [])) || (decide (k = 3) && decide (n = 0) && decide ((s.size : Int) ≤ 64))
/-- how two texts stand -/
def cs (a b : ByteArray) : Int := if a.data.toList < b.data.toList then -1 else if a = b then 0 else 1
def ci (a b : Int) : Int := if a < b then -1 else if b < a then 1 else 0
/-- how two values stand -/
def cmp (k n : Int) (s : ByteArray) (k' n' : Int) (s' : ByteArray) : Int :=
  if ci k k' = 0 then (if ci n n' = 0 then cs s s' else ci n n') else ci k k'
def known (k n : Int) (s : ByteArray) (k' n' : Int) (s' : ByteArray) : Bool := !decide (k = 0) && !decide (k' = 0) && ok k n s && ok k' n' s'
def truth (b : Bool) : Int := cond b 1 0
def same (k n : Int) (s : ByteArray) (k' n' : Int) (s' : ByteArray) : Bool := decide (k = k') && (decide (n = n') && (decide (s = s') && true))
def equal (k n : Int) (s : ByteArray) (k' n' : Int) (s' : ByteArray) : Int := cond (known k n s k' n' s') (truth (same k n s k' n' s')) 2
def less (k n : Int) (s : ByteArray) (k' n' : Int) (s' : ByteArray) : Int := cond (known k n s k' n' s') (truth (decide (k = k') && decide (cmp k n s k' n' s' < 0))) 2
def tru (k n : Int) (s : ByteArray) : Int := cond (decide (k = 1) && ok k n s) n 2

theorem cs_self (a : ByteArray) : cs a a = 0 := by simp [cs, List.lt_irrefl]
theorem cs_cases (a b : ByteArray) : (cs a b = -1 ∧ cs b a = 1 ∧ a ≠ b ∧ a.data.toList < b.data.toList) ∨ (cs a b = 0 ∧ a = b) ∨ (cs a b = 1 ∧ cs b a = -1 ∧ a ≠ b ∧ b.data.toList < a.data.toList) := by
  by_cases h : a.data.toList < b.data.toList
  · have h2 : ¬ b.data.toList < a.data.toList := List.lt_asymm h
    have h3 : a ≠ b := fun e => by subst e; exact List.lt_irrefl _ h
    exact Or.inl ⟨by simp [cs, h], by simp [cs, h2, Ne.symm h3], h3, h⟩
  · by_cases he : a = b
    · subst he; exact Or.inr (Or.inl ⟨cs_self a, rfl⟩)
    · have h2 : b.data.toList < a.data.toList := by
        rcases List.le_iff_lt_or_eq.1 (List.not_lt.1 h) with h1 | h1
        · exact h1
        · exact absurd (data_inj h1.symm) he
      exact Or.inr (Or.inr ⟨by simp [cs, h, he], by simp [cs, h2], he, h2⟩)
theorem ci_cases (a b : Int) : (ci a b = -1 ∧ ci b a = 1 ∧ a < b) ∨ (ci a b = 0 ∧ ci b a = 0 ∧ a = b) ∨ (ci a b = 1 ∧ ci b a = -1 ∧ b < a) := by
  unfold ci
  by_cases h1 : a < b
  · have h2 : ¬ b < a := by omega
    simp [h1, h2]
  · by_cases h2 : b < a
    · simp [h1, h2]
    · have : a = b := by omega
      simp [h1, h2, this]
end V

theorem V.cmp_cases (k n : Int) (s : ByteArray) (k' n' : Int) (s' : ByteArray) : (V.cmp k n s k' n' s' = -1 ∧ V.cmp k' n' s' k n s = 1 ∧ V.same k n s k' n' s' = false) ∨ (V.cmp k n s k' n' s' = 0 ∧ V.cmp k' n' s' k n s = 0 ∧ V.same k n s k' n' s' = true) ∨ (V.cmp k n s k' n' s' = 1 ∧ V.cmp k' n' s' k n s = -1 ∧ V.same k n s k' n' s' = false) := by
  unfold V.cmp V.same
  rcases V.ci_cases k k' with ⟨h1, h2, h3⟩ | ⟨h1, h2, h3⟩ | ⟨h1, h2, h3⟩
  · have : k ≠ k' := by omega
    simp [h1, h2, this]
  · subst h3
    rcases V.ci_cases n n' with ⟨h4, h5, h6⟩ | ⟨h4, h5, h6⟩ | ⟨h4, h5, h6⟩
    · have : n ≠ n' := by omega
      simp [h1, h4, h5, this]
    · subst h6
      rcases V.cs_cases s s' with ⟨h7, h8, h9, _⟩ | ⟨h7, h8⟩ | ⟨h7, h8, h9, _⟩
      · simp [h1, h4, h7, h8, h9]
      · subst h8; simp [h1, h4, h7]
      · simp [h1, h4, h7, h8, h9]
    · have : n ≠ n' := by omega
      simp [h1, h4, h5, this]
  · have : k ≠ k' := by omega
    simp [h1, h2, this]
def V.lt (k n : Int) (s : ByteArray) (k' n' : Int) (s' : ByteArray) : Prop := k < k' ∨ (k = k' ∧ (n < n' ∨ (n = n' ∧ s.data.toList < s'.data.toList)))
theorem V.cmp_lt (k n : Int) (s : ByteArray) (k' n' : Int) (s' : ByteArray) : V.cmp k n s k' n' s' = -1 ↔ V.lt k n s k' n' s' := by
  unfold V.cmp V.lt
  rcases V.ci_cases k k' with ⟨h1, h2, h3⟩ | ⟨h1, h2, h3⟩ | ⟨h1, h2, h3⟩
  · simp [h1, h3]
  · subst h3
    rcases V.ci_cases n n' with ⟨h4, h5, h6⟩ | ⟨h4, h5, h6⟩ | ⟨h4, h5, h6⟩
    · simp [h1, h4, h6]
    · subst h6
      rcases V.cs_cases s s' with ⟨h7, h8, h9, h10⟩ | ⟨h7, h8⟩ | ⟨h7, h8, h9, h10⟩
      · simp [h1, h4, h7, h10]
      · subst h8; simp [h1, h4, h7, List.lt_irrefl]
      · have : ¬ s.data.toList < s'.data.toList := List.lt_asymm h10
        simp [h1, h4, h7, this]
    · have : n ≠ n' := by omega
      have h8 : ¬ n < n' := by omega
      simp [h1, h4, this, h8]
  · have : k ≠ k' := by omega
    have h8 : ¬ k < k' := by omega
    simp [h1, this, h8]
theorem V.lt_trans {k n : Int} {s : ByteArray} {k' n' : Int} {s' : ByteArray} {k2 n2 : Int} {s2 : ByteArray} (h1 : V.lt k n s k' n' s') (h2 : V.lt k' n' s' k2 n2 s2) : V.lt k n s k2 n2 s2 := by
  unfold V.lt at *
  rcases h1 with h1 | ⟨rfl, h1 | ⟨rfl, h1⟩⟩ <;> rcases h2 with h2 | ⟨rfl, h2 | ⟨rfl, h2⟩⟩
  · exact Or.inl (by omega)
  · exact Or.inl h1
  · exact Or.inl h1
  · exact Or.inl h2
  · exact Or.inr ⟨rfl, Or.inl (by omega)⟩
  · exact Or.inr ⟨rfl, Or.inl h1⟩
  · exact Or.inl h2
  · exact Or.inr ⟨rfl, Or.inl h2⟩
  · exact Or.inr ⟨rfl, Or.inr ⟨rfl, List.lt_trans h1 h2⟩⟩
theorem V.same_eq {k n : Int} {s : ByteArray} {k' n' : Int} {s' : ByteArray} (h : V.same k n s k' n' s' = true) : k = k' ∧ n = n' ∧ s = s' := by
  unfold V.same at h
  simpa using h

/-- a value -/
structure Vl where
  k : Int
  n : Int
  s : ByteArray
deriving DecidableEq

namespace Vl
def enc (v : Vl) : List Dat := [.int .i64 v.k, .int .i64 v.n, .str v.s]
def cmp (a b : Vl) : Int := V.cmp a.k a.n a.s b.k b.n b.s
def ok (v : Vl) : Bool := V.ok v.k v.n v.s

theorem cmp_cases (a b : Vl) : (cmp a b = -1 ∧ cmp b a = 1 ∧ a ≠ b) ∨ (cmp a b = 0 ∧ cmp b a = 0 ∧ a = b) ∨ (cmp a b = 1 ∧ cmp b a = -1 ∧ a ≠ b) := by
  have hne : V.same a.k a.n a.s b.k b.n b.s = false → a ≠ b := by
    rintro h rfl
    simp [V.same] at h
  rcases V.cmp_cases a.k a.n a.s b.k b.n b.s with ⟨h1, h2, h3⟩ | ⟨h1, h2, h3⟩ | ⟨h1, h2, h3⟩
  · exact .inl ⟨h1, h2, hne h3⟩
  · obtain ⟨e1, e2, e3⟩ := V.same_eq h3
    refine .inr (.inl ⟨h1, h2, ?_⟩)
    cases a; cases b; simp_all
  · exact .inr (.inr ⟨h1, h2, hne h3⟩)

theorem cmp_self (a : Vl) : cmp a a = 0 := by
  rcases cmp_cases a a with ⟨_, _, h⟩ | ⟨h, _, _⟩ | ⟨_, _, h⟩
  · exact absurd rfl h
  · exact h
  · exact absurd rfl h

theorem cmp_trans {a b c : Vl} (h1 : cmp a b = -1) (h2 : cmp b c = -1) : cmp a c = -1 :=
  (V.cmp_lt ..).2 (V.lt_trans ((V.cmp_lt ..).1 h1) ((V.cmp_lt ..).1 h2))
end Vl

theorem vl_cells {β : Type} (v : Vl) (F : Int → Int → ByteArray → Option β) :
    (bif List.length v.enc == 3 then cellAt v.enc 0 fun z9 => Aev.asInt IntKind.i64 z9 fun z10 => cellAt v.enc 1 fun z11 => Aev.asInt IntKind.i64 z11 fun z12 => cellAt v.enc 2 fun z13 => asStr z13 fun z14 => F z10 z12 z14 else none) = F v.k v.n v.s := rfl

theorem elemAt_enc {β : Type} {l : List Vl} {i : Nat} {v : Vl} (h : l[i]? = some v) (F : List Dat → Option β) : elemAt (l.map Vl.enc) (i : Int) F = F v.enc :=
  elemAt_some (by rw [List.getElem?_map, h]; rfl) F

theorem dropv_cons {α : Type} {l : List α} {i : Nat} (h : i < l.length) : ∃ c, l[i]? = some c ∧ l.drop i = c :: l.drop (i + 1) :=
  ⟨l[i], List.getElem?_eq_getElem h, List.drop_eq_getElem_cons h⟩

namespace R
/-- how two rows stand -/
def cmp : List Vl → List Vl → Int
  | [], [] => 0
  | [], _ :: _ => -1
  | _ :: _, [] => 1
  | a :: l, b :: m => if Vl.cmp a b = 0 then cmp l m else Vl.cmp a b

theorem cmp_cases : ∀ a b : List Vl, (cmp a b = -1 ∧ cmp b a = 1 ∧ a ≠ b) ∨ (cmp a b = 0 ∧ cmp b a = 0 ∧ a = b) ∨ (cmp a b = 1 ∧ cmp b a = -1 ∧ a ≠ b)
  | [], [] => .inr (.inl ⟨rfl, rfl, rfl⟩)
  | [], _ :: _ => .inl ⟨rfl, rfl, by simp⟩
  | _ :: _, [] => .inr (.inr ⟨rfl, rfl, by simp⟩)
  | a :: l, b :: m => by
    unfold cmp
    rcases Vl.cmp_cases a b with ⟨h1, h2, h3⟩ | ⟨h1, h2, h3⟩ | ⟨h1, h2, h3⟩
    · left
      rw [h1, h2]
      exact ⟨by simp, by simp, fun e => h3 (List.cons.inj e).1⟩
    · subst h3
      rw [h1, if_pos rfl, if_pos rfl]
      rcases cmp_cases l m with ⟨h4, h5, h6⟩ | ⟨h4, h5, h6⟩ | ⟨h4, h5, h6⟩
      · exact .inl ⟨h4, h5, fun e => h6 (List.cons.inj e).2⟩
      · exact .inr (.inl ⟨h4, h5, by rw [h6]⟩)
      · exact .inr (.inr ⟨h4, h5, fun e => h6 (List.cons.inj e).2⟩)
    · right; right
      rw [h1, h2]
      exact ⟨by simp, by simp, fun e => h3 (List.cons.inj e).1⟩

theorem cmp_trans : ∀ {a b c : List Vl}, cmp a b = -1 → cmp b c = -1 → cmp a c = -1
  | [], [], _, h, _ => by cases h
  | [], _ :: _, [], _, h => by simp [cmp] at h
  | [], _ :: _, _ :: _, _, _ => rfl
  | _ :: _, [], _, h, _ => by simp [cmp] at h
  | _ :: _, _ :: _, [], _, h => by simp [cmp] at h
  | a :: l, b :: m, c :: n, h1, h2 => by
    unfold cmp at h1 h2 ⊢
    rcases Vl.cmp_cases a b with ⟨e1, e2, e3⟩ | ⟨e1, e2, e3⟩ | ⟨e1, e2, e3⟩
    · rcases Vl.cmp_cases b c with ⟨f1, f2, f3⟩ | ⟨f1, f2, f3⟩ | ⟨f1, f2, f3⟩
      · rw [Vl.cmp_trans e1 f1]; rfl
      · subst f3; rw [e1]; rfl
      · rw [f1] at h2; simp at h2
    · subst e3
      rw [e1, if_pos rfl] at h1
      rcases Vl.cmp_cases a c with ⟨f1, f2, f3⟩ | ⟨f1, f2, f3⟩ | ⟨f1, f2, f3⟩
      · rw [f1]; rfl
      · rw [f1, if_pos rfl] at h2 ⊢
        exact cmp_trans h1 h2
      · rw [f1] at h2; simp at h2
    · rw [e1] at h1; simp at h1

theorem cmp_range (a b : List Vl) : cmp a b = -1 ∨ cmp a b = 0 ∨ cmp a b = 1 := by
  rcases cmp_cases a b with ⟨h, _⟩ | ⟨h, _⟩ | ⟨h, _⟩ <;> simp [h]

theorem lt_iff (a b : List Vl) : cmp a b < 0 ↔ cmp a b = -1 := by
  rcases cmp_range a b with h | h | h <;> rw [h] <;> decide

theorem ord : OrdOk (fun _ : List Vl => True) cmp := by
  refine ⟨fun x _ h => ?_, fun x y z _ _ _ h1 h2 => ?_, fun x y z _ _ _ h1 h2 h3 => ?_, fun x y _ _ h1 h2 => ?_⟩
  · rcases cmp_cases x x with ⟨h1, h2, h3⟩ | ⟨h1, _⟩ | ⟨h1, h2, h3⟩
    · exact h3 rfl
    · rw [h1] at h; cases h
    · exact h3 rfl
  · rw [lt_iff] at *
    exact cmp_trans h1 h2
  · rw [lt_iff] at *
    rcases cmp_cases x y with ⟨e1, _, _⟩ | ⟨_, _, rfl⟩ | ⟨_, e1, _⟩
    · exact h1 e1
    · exact h2 h3
    · exact h2 (cmp_trans e1 h3)
  · rw [lt_iff] at *
    rcases cmp_cases x y with ⟨e1, _, _⟩ | ⟨_, _, e⟩ | ⟨_, e1, _⟩
    · exact absurd e1 h1
    · exact e
    · exact absurd e1 h2

/-- a row as the evaluator has it -/
def enc (l : List Vl) : Dat := .sl (l.map Vl.enc)

def decV : List Dat → Option Vl
  | [.int .i64 k, .int .i64 n, .str s] => some ⟨k, n, s⟩
  | _ => none

def decL : List (List Dat) → Option (List Vl)
  | [] => some []
  | e :: r => (decV e).bind fun v => (decL r).map fun l => v :: l

def dec (d : Dat) : Option (List Vl) :=
  match d with
  | .sl es => decL es
  | _ => none

theorem decV_enc {e : List Dat} {v : Vl} (h : decV e = some v) : e = v.enc := by
  unfold decV at h
  split at h
  · cases h; rfl
  · cases h

theorem decL_enc : ∀ {es : List (List Dat)} {l : List Vl}, decL es = some l → es = l.map Vl.enc
  | [], l, h => by cases h; rfl
  | e :: r, l, h => by
    simp only [decL, Option.bind_eq_some_iff, Option.map_eq_some_iff] at h
    obtain ⟨v, hv, m, hm, rfl⟩ := h
    rw [decV_enc hv, decL_enc hm]; rfl

theorem decL_map : ∀ l : List Vl, decL (l.map Vl.enc) = some l
  | [] => rfl
  | v :: l => by simp [decL, decL_map l, decV, Vl.enc]

theorem dec_enc {d : Dat} {l : List Vl} (h : dec d = some l) : d = enc l := by
  unfold dec at h
  split at h
  · rw [decL_enc h]; rfl
  · cases h

theorem dec_map (l : List Vl) : dec (enc l) = some l := decL_map l

def cmpD (x y : Dat) : Int :=
  match dec x, dec y with
  | some a, some b => cmp a b
  | _, _ => 0

/-- rows that may be sorted: of values, not too long -/
def OkD (d : Dat) : Prop := ∃ l : List Vl, l.length ≤ 16777216 ∧ d = enc l

theorem cmpD_enc (a b : List Vl) : cmpD (enc a) (enc b) = cmp a b := by
  unfold cmpD; rw [dec_map, dec_map]

theorem enc_inj {a b : List Vl} (h : enc a = enc b) : a = b := by
  have := congrArg dec h
  rw [dec_map, dec_map] at this
  exact Option.some.inj this

theorem ordD : OrdOk OkD cmpD := by
  refine ⟨?_, ?_, ?_, ?_⟩
  · rintro x ⟨a, _, rfl⟩
    rw [cmpD_enc]; exact ord.irrefl a trivial
  · rintro x y z ⟨a, _, rfl⟩ ⟨b, _, rfl⟩ ⟨c, _, rfl⟩
    rw [cmpD_enc, cmpD_enc, cmpD_enc]; exact ord.trans a b c trivial trivial trivial
  · rintro x y z ⟨a, _, rfl⟩ ⟨b, _, rfl⟩ ⟨c, _, rfl⟩
    rw [cmpD_enc, cmpD_enc, cmpD_enc]; exact ord.ntrans a b c trivial trivial trivial
  · rintro x y ⟨a, _, rfl⟩ ⟨b, _, rfl⟩
    rw [cmpD_enc, cmpD_enc]
    intro h1 h2
    rw [ord.anti a b trivial trivial h1 h2]

theorem insBy_enc (x : List Vl) : ∀ l : List (List Vl), insBy cmpD (enc x) (l.map enc) = (insBy cmp x l).map enc
  | [] => rfl
  | y :: l => by
    simp only [List.map_cons, insBy, cmpD_enc]
    cases decide (cmp y x < 0) with
    | true => simp only [cond_true, List.map_cons, insBy_enc x l]
    | false => rfl

theorem sortBy_enc : ∀ l : List (List Vl), sortBy cmpD (l.map enc) = (sortBy cmp l).map enc
  | [] => rfl
  | x :: l => by simp only [List.map_cons, sortBy, sortBy_enc l, insBy_enc]
end R

/-- rows in order, as the evaluator has them -/
def Sp.rowsOk (es : List (List Dat)) : Bool := es.all fun e => match e with
  | [d] => (match R.dec d with
    | some l => decide (l.length ≤ 16777216)
    | none => false)
  | _ => false
def Sp.sortRows (es : List (List Dat)) : List (List Dat) := (sortBy R.cmpD (es.map fun e => e.headD .nilP)).map fun d => [d]

def sortS : Ent3 := fun a sg γ K => match a, sg with
  | [.dat (.sl es)], [] => cond (Sp.rowsOk es && decide (es.length ≤ 16777216)) (K ([(.dat (.sl (Sp.sortRows es)), .none)], [])) none
  | _, _ => none

theorem sortS_cps : CpsOk sortS := by
  intro a sg γ K q h
  unfold sortS at h
  split at h
  · obtain ⟨h1, h2⟩ := cond_any h
    exact ⟨_, by simp only [sortS, h1, cond_true], h2⟩
  · cases h

theorem rowsOk_iff {es : List (List Dat)} (h : Sp.rowsOk es = true) : ∃ l : List (List Vl), es = l.map (fun x => [R.enc x]) ∧ ∀ x ∈ l, x.length ≤ 16777216 := by
  induction es with
  | nil => exact ⟨[], rfl, fun x hx => by cases hx⟩
  | cons e r ih =>
    simp only [Sp.rowsOk, List.all_cons, Bool.and_eq_true] at h
    obtain ⟨h1, h2⟩ := h
    obtain ⟨l, rfl, hl⟩ := ih h2
    split at h1
    · rename_i d
      split at h1
      · rename_i x hx
        refine ⟨x :: l, by rw [R.dec_enc hx]; rfl, fun y hy => ?_⟩
        rcases List.mem_cons.1 hy with rfl | hy
        · exact of_decide_eq_true h1
        · exact hl y hy
      · cases h1
    · cases h1

theorem sortRows_enc (l : List (List Vl)) : Sp.sortRows (l.map fun x => [R.enc x]) = (sortBy R.cmp l).map fun x => [R.enc x] := by
  unfold Sp.sortRows
  rw [List.map_map, show ((fun e : List Dat => e.headD Dat.nilP) ∘ fun x : List Vl => [R.enc x]) = R.enc from rfl, R.sortBy_enc, List.map_map]
  rfl

theorem rowsOk_enc (l : List (List Vl)) (h : ∀ x ∈ l, x.length ≤ 16777216) : Sp.rowsOk (l.map fun x => [R.enc x]) = true := by
  unfold Sp.rowsOk
  rw [List.all_eq_true]
  intro e he
  obtain ⟨x, hx, rfl⟩ := List.mem_map.1 he
  simp only [R.dec_map]
  exact decide_eq_true (h x hx)

end Go.Aev

end
