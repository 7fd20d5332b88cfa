/- A deep evaluator for the code of the model, and its soundness: part 4. -/
import Derived.Test.YtffhgjoemimmnaaDoorAevC
import Derived.Shelf.Strings.OnBuilder
import Derived.Shelf.Strings.Prefix
import Derived.Shelf.Strings.Split
import Derived.Shelf.Strings.Replace
section
/- Functions of Go's library at any program: what their contracts make of them here. -/
namespace Go.Aev
open Go.RowKit

section
variable {C : Cfg} {f : FuncId}

theorem rep_str {w : World} {M : Nat → Nat} {sm : List Nat} {s : ByteArray} {v : Value} (h : RepB w M sm (.dat (.str s)) v) : v = .string s := by
  cases h with | dat h => cases h; rfl
theorem rep_int {w : World} {M : Nat → Nat} {sm : List Nat} {k : IntKind} {n : Int} {v : Value} (h : RepB w M sm (.dat (.int k n)) v) : v = .int k n := by
  cases h with | dat h => cases h; rfl

theorem addr_add (b o k : Nat) : Addr.add ⟨b, o, none⟩ k = ⟨b, o + k, none⟩ := by
  unfold Addr.add
  split
  · rename_i h; subst h; rfl
  · rfl

/-! strings.HasPrefix -/

def hasPrefA (args : List AVal) (sg : Sig) : Option (List Ent × Sig) :=
  match args, sg with
  | [.dat (.str s), .dat (.str p)], [] => some ([(.dat (.bool (Lib.hasPrefix s.data.toList p.data.toList)), .none)], [])
  | _, _ => none

theorem hasPrefA_ok (hc : ∀ s p w, Calls C.P f #[.string s, .string p] w fun e w' => e = .returned (.bool (Lib.hasPrefix s.data.toList p.data.toList)) ∧ w' = w) : CallAt C f hasPrefA := by
  refine callAt_one (fun args sg rs sg' h => ?_) fun args sg rs sg' h w M vs hl hr hg => ?_
  · unfold hasPrefA at h
    split at h
    · rfl
    · cases h
  · unfold hasPrefA at h
    split at h
    · rename_i s p
      cases h
      refine ⟨rfl, _, rfl, ?_⟩
      obtain ⟨l⟩ := vs
      match l, hl with
      | [v0, v1], _ =>
        obtain rfl := rep_str (hr 0 _ v0 rfl rfl)
        obtain rfl := rep_str (hr 1 _ v1 rfl rfl)
        refine (hc s p w).mono fun e w' hq => ?_
        obtain ⟨he, rfl⟩ := hq
        exact ⟨_, he, .refl _ w', .bool _⟩
    · cases h

def Sp.strings_HasPrefix (s p : ByteArray) (γ : Type) (K : Bool → Option γ) : Option γ := K (Lib.hasPrefix s.data.toList p.data.toList)
abbrev Ty_strings_HasPrefix : Type 1 := ByteArray → ByteArray → (γ : Type) → (Bool → Option γ) → Option γ
def P_strings_HasPrefix (X : Ty_strings_HasPrefix) (F : Ent3) : Ent3 := fun a s γ K => match a, s with
  | [.dat (.str x), .dat (.str p)], [] => X x p γ fun r => K ([(.dat (.bool r), .none)], [])
  | a, s => F a s γ K
theorem E_strings_HasPrefix (hp : C.prim f = some hasPrefA) {F : Ent3} (hF : EntOk C f F) : EntOk C f (P_strings_HasPrefix Sp.strings_HasPrefix F) := by
  intro a s γ K q h
  unfold P_strings_HasPrefix at h
  split at h
  · exact ent_prim (S := fun a s γ K => (hasPrefA a s).bind K) (F := hasPrefA) hp (fun a s γ K q h => h) _ _ γ K q h
  · exact hF _ _ _ _ _ h

/-! strings.IndexByte -/

def idxByteA (args : List AVal) (sg : Sig) : Option (List Ent × Sig) :=
  match args, sg with
  | [.dat (.str s), .dat (.int .u8 c)], [] => some ([(.dat (.int .i64 (Lib.indexByte s.data.toList c.toNat.toUInt8)), .none)], [])
  | _, _ => none

theorem idxByteA_ok (hc : ∀ s c w, Calls C.P f #[.string s, .int .u8 c] w fun e w' => e = .returned (.int .i64 (Lib.indexByte s.data.toList c.toNat.toUInt8)) ∧ w' = w) : CallAt C f idxByteA := by
  refine callAt_one (fun args sg rs sg' h => ?_) fun args sg rs sg' h w M vs hl hr hg => ?_
  · unfold idxByteA at h
    split at h
    · rfl
    · cases h
  · unfold idxByteA at h
    split at h
    · rename_i s c
      cases h
      refine ⟨rfl, _, rfl, ?_⟩
      obtain ⟨l⟩ := vs
      match l, hl with
      | [v0, v1], _ =>
        obtain rfl := rep_str (hr 0 _ v0 rfl rfl)
        obtain rfl := rep_int (hr 1 _ v1 rfl rfl)
        refine (hc s c w).mono fun e w' hq => ?_
        obtain ⟨he, rfl⟩ := hq
        exact ⟨_, he, .refl _ w', .int _ _⟩
    · cases h

def Sp.strings_IndexByte (s : ByteArray) (c : Int) (γ : Type) (K : Int → Option γ) : Option γ := K (Lib.indexByte s.data.toList c.toNat.toUInt8)
abbrev Ty_strings_IndexByte : Type 1 := ByteArray → Int → (γ : Type) → (Int → Option γ) → Option γ
def P_strings_IndexByte (X : Ty_strings_IndexByte) (F : Ent3) : Ent3 := fun a s γ K => match a, s with
  | [.dat (.str x), .dat (.int .u8 c)], [] => X x c γ fun r => K ([(.dat (.int .i64 r), .none)], [])
  | a, s => F a s γ K
theorem E_strings_IndexByte (hp : C.prim f = some idxByteA) {F : Ent3} (hF : EntOk C f F) : EntOk C f (P_strings_IndexByte Sp.strings_IndexByte F) := by
  intro a s γ K q h
  unfold P_strings_IndexByte at h
  split at h
  · exact ent_prim (S := fun a s γ K => (idxByteA a s).bind K) (F := idxByteA) hp (fun a s γ K q h => h) _ _ γ K q h
  · exact hF _ _ _ _ _ h

/-! strings.ReplaceAll -/

def replA (args : List AVal) (sg : Sig) : Option (List Ent × Sig) :=
  match args, sg with
  | [.dat (.str s), .dat (.str old), .dat (.str new)], [] =>
    cond (decide (s.size < 4294967281) && decide (1 ≤ old.size) && decide (s.size + Lib.countB s old * new.size ≤ 140737488355328))
      (some ([(.dat (.str ⟨(Lib.replaceAll s.data.toList old.data.toList new.data.toList).toArray⟩), .none)], [])) none
  | _, _ => none

theorem replA_ok (hc : ∀ s old new w M, GlobOk C w M → s.size < 4294967281 → 1 ≤ old.size → s.size + Lib.countB s old * new.size ≤ 140737488355328 →
    Calls C.P f #[.string s, .string old, .string new] w fun e w' => e = .returned (.string ⟨(Lib.replaceAll s.data.toList old.data.toList new.data.toList).toArray⟩) ∧ Below w.heap.size w w') : CallAt C f replA := by
  refine callAt_one (fun args sg rs sg' h => ?_) fun args sg rs sg' h w M vs hl hr hg => ?_
  · unfold replA at h
    split at h
    · rfl
    · cases h
  · unfold replA at h
    split at h
    · rename_i s old new
      obtain ⟨h1, h2⟩ := cond_any h
      simp only [Bool.and_eq_true, decide_eq_true_eq] at h1
      cases h2
      refine ⟨rfl, _, rfl, ?_⟩
      obtain ⟨l⟩ := vs
      match l, hl with
      | [v0, v1, v2], _ =>
        obtain rfl := rep_str (hr 0 _ v0 rfl rfl)
        obtain rfl := rep_str (hr 1 _ v1 rfl rfl)
        obtain rfl := rep_str (hr 2 _ v2 rfl rfl)
        exact (hc s old new w M hg h1.1.1 h1.1.2 h1.2).mono fun e w' hq => ⟨_, hq.1, hq.2, .str _⟩
    · cases h

def Sp.strings_ReplaceAll (s old new : ByteArray) (γ : Type) (K : ByteArray → Option γ) : Option γ :=
  cond (decide (s.size < 4294967281) && decide (1 ≤ old.size) && decide (s.size + Lib.countB s old * new.size ≤ 140737488355328)) (K ⟨(Lib.replaceAll s.data.toList old.data.toList new.data.toList).toArray⟩) none
abbrev Ty_strings_ReplaceAll : Type 1 := ByteArray → ByteArray → ByteArray → (γ : Type) → (ByteArray → Option γ) → Option γ
def P_strings_ReplaceAll (X : Ty_strings_ReplaceAll) (F : Ent3) : Ent3 := fun a s γ K => match a, s with
  | [.dat (.str x), .dat (.str old), .dat (.str new)], [] => X x old new γ fun r => K ([(.dat (.str r), .none)], [])
  | a, s => F a s γ K
theorem E_strings_ReplaceAll (hp : C.prim f = some replA) {F : Ent3} (hF : EntOk C f F) : EntOk C f (P_strings_ReplaceAll Sp.strings_ReplaceAll F) := by
  intro a s γ K q h
  unfold P_strings_ReplaceAll at h
  split at h
  · rename_i x old new
    refine ent_prim (S := fun a s γ K => (replA a s).bind K) (F := replA) hp (fun a s γ K q h => h) _ _ γ K q ?_
    unfold Sp.strings_ReplaceAll at h
    obtain ⟨h1, h2⟩ := cond_any h
    simp only [replA, h1, cond_true]
    exact h2
  · exact hF _ _ _ _ _ h

/-! strings.Join -/

/-- rows of one text each -/
def strsOf : List (List Dat) → Option (List ByteArray)
  | [] => some []
  | [.str x] :: r => (strsOf r).map (x :: ·)
  | _ :: _ => none

theorem strsOf_get : ∀ {es : List (List Dat)} {xs : List ByteArray}, strsOf es = some xs → es = xs.map fun x => [.str x]
  | [], xs, h => by cases h; rfl
  | e :: r, xs, h => by
    unfold strsOf at h
    split at h
    · rename_i he; cases he
    · rename_i x r' he
      cases he
      rw [Option.map_eq_some_iff] at h
      obtain ⟨ys, h1, rfl⟩ := h
      rw [strsOf_get h1]; rfl
    · cases h

def joinA (args : List AVal) (sg : Sig) : Option (List Ent × Sig) :=
  match args, sg with
  | [.dat (.sl es), .dat (.str sep)], [] => (strsOf es).bind fun xs =>
    cond (decide (xs.length ≤ 140737488355328) && decide ((Lib.join (xs.map (·.data.toList)) sep.data.toList).length ≤ 140737488355328))
      (some ([(.dat (.str ⟨(Lib.join (xs.map (·.data.toList)) sep.data.toList).toArray⟩), .none)], [])) none
  | _, _ => none

theorem joinA_ok (h0 : ∀ a c sep w, Calls C.P f #[.slice a 0 c, .string sep] w fun e w' => e = .returned (.string ⟨#[]⟩) ∧ w' = w)
    (hc : ∀ (bk o c : Nat) (xs : List ByteArray) (sep : ByteArray) (w : World), (∀ (j : Nat) x, xs[j]? = some x → w.cell? ⟨bk, o + j, none⟩ = some (.string x)) → bk < w.heap.size → xs.length ≤ 140737488355328 → xs.length ≤ c →
      (Lib.join (xs.map (·.data.toList)) sep.data.toList).length ≤ 140737488355328 →
      Calls C.P f #[.slice (some ⟨bk, o, none⟩) xs.length c, .string sep] w fun e w' => e = .returned (.string ⟨(Lib.join (xs.map (·.data.toList)) sep.data.toList).toArray⟩) ∧ Below w.heap.size w w') : CallAt C f joinA := by
  refine callAt_one (fun args sg rs sg' h => ?_) fun args sg rs sg' h w M vs hl hr hg => ?_
  · unfold joinA at h
    split at h
    · rfl
    · cases h
  · unfold joinA at h
    split at h
    · rename_i es sep
      rw [Option.bind_eq_some_iff] at h
      obtain ⟨xs, hx, h⟩ := h
      obtain ⟨h1, h2⟩ := cond_any h
      simp only [Bool.and_eq_true, decide_eq_true_eq] at h1
      cases h2
      refine ⟨rfl, _, rfl, ?_⟩
      obtain ⟨l⟩ := vs
      match l, hl with
      | [v0, v1], _ =>
        obtain rfl := rep_str (hr 1 _ v1 rfl rfl)
        have hes := strsOf_get hx
        cases xs with
        | nil =>
          subst hes
          have hv : ∃ a c, v0 = .slice a 0 c := by
            cases hr 0 _ v0 rfl rfl with
            | dat h =>
              cases h with
              | nilS => exact ⟨_, _, rfl⟩
              | sl vs hn => simp at hn; subst hn; exact ⟨_, _, rfl⟩
          obtain ⟨a, c, rfl⟩ := hv
          refine (h0 a c sep w).mono fun e w' hq => ?_
          obtain ⟨he, rfl⟩ := hq
          exact ⟨_, he, .refl _ w', .str _⟩
        | cons x xs =>
          have hv : ∃ bk o c, v0 = .slice (some ⟨bk, o, none⟩) (x :: xs).length c ∧ (x :: xs).length ≤ c ∧ c ≤ maxLen ∧ ∀ (j : Nat) y, (x :: xs)[j]? = some y → w.cell? ⟨bk, o + j, none⟩ = some (.string y) := by
            cases hr 0 _ v0 rfl rfl with
            | dat h =>
              cases h with
              | nilS => cases hes
              | @sl es a n cap size vs hn hcp hm hs he hcell hrr =>
                subst hes
                simp only [List.length_map] at hn
                subst hn
                obtain ⟨bk, o, sp⟩ := a
                have hsp : sp = none := hs (by simp)
                subst hsp
                have hsz : size = 1 := by
                  have := he [.str x] (by simp)
                  simpa using this.symm
                subst hsz
                refine ⟨bk, o, cap, rfl, hcp, hm, fun j y hy => ?_⟩
                have hlt : j < (x :: xs).length := (List.getElem?_eq_some_iff.1 hy).1
                have h3 := (hcell j (by omega)).1
                have h4 := hrr j 0 [.str y] (.str y) (by rw [List.getElem?_map, hy]; rfl) rfl
                simp only [Nat.mul_one, Nat.add_zero] at h4
                rw [addr_add] at h3
                generalize vs j = u at h3 h4
                cases h4
                exact h3
          obtain ⟨bk, o, c, rfl, hcp, hm, hcell⟩ := hv
          have hbk : bk < w.heap.size := by
            have := hcell 0 x rfl
            rcases Nat.lt_or_ge bk w.heap.size with h | h
            · exact h
            · simp [World.cell?, Array.getElem?_eq_none h] at this
          refine (hc bk o c (x :: xs) sep w hcell hbk h1.1 hcp h1.2).mono fun e w' hq => ⟨_, hq.1, hq.2, .str _⟩
    · cases h

def Sp.strings_Join (es : List (List Dat)) (sep : ByteArray) (γ : Type) (K : ByteArray → Option γ) : Option γ :=
  (strsOf es).bind fun xs => cond (decide (xs.length ≤ 140737488355328) && decide ((Lib.join (xs.map (·.data.toList)) sep.data.toList).length ≤ 140737488355328)) (K ⟨(Lib.join (xs.map (·.data.toList)) sep.data.toList).toArray⟩) none
abbrev Ty_strings_Join : Type 1 := List (List Dat) → ByteArray → (γ : Type) → (ByteArray → Option γ) → Option γ
def P_strings_Join (X : Ty_strings_Join) (F : Ent3) : Ent3 := fun a s γ K => match a, s with
  | [.dat (.sl es), .dat (.str sep)], [] => X es sep γ fun r => K ([(.dat (.str r), .none)], [])
  | a, s => F a s γ K
theorem E_strings_Join (hp : C.prim f = some joinA) {F : Ent3} (hF : EntOk C f F) : EntOk C f (P_strings_Join Sp.strings_Join F) := by
  intro a s γ K q h
  unfold P_strings_Join at h
  split at h
  · rename_i es sep
    refine ent_prim (S := fun a s γ K => (joinA a s).bind K) (F := joinA) hp (fun a s γ K q h => h) _ _ γ K q ?_
    unfold Sp.strings_Join at h
    rw [Option.bind_eq_some_iff] at h
    obtain ⟨xs, hx, h⟩ := h
    obtain ⟨h1, h2⟩ := cond_any h
    simp only [joinA, hx, Option.bind_some, h1, cond_true]
    exact h2
  · exact hF _ _ _ _ _ h

/-! strings.Split -/

def splitA (args : List AVal) (sg : Sig) : Option (List Ent × Sig) :=
  match args, sg with
  | [.dat (.str s), .dat (.str sep)], [] =>
    cond (decide (s.size < 4294967281) && decide (1 ≤ sep.size) && decide (Lib.countB s sep + 1 ≤ maxLen) && decide ((Lib.splitB sep 0 (Lib.countB s sep) s).length = Lib.countB s sep + 1))
      (some ([(.dat (.sl ((Lib.splitB sep 0 (Lib.countB s sep) s).map fun x => [.str x])), .none)], [])) none
  | _, _ => none

theorem splitA_ok {T : TypeId} (hc : ∀ s sep w M, GlobOk C w M → s.size < 4294967281 → 1 ≤ sep.size →
    Calls C.P f #[.string s, .string sep] w fun e w' => e = .returned (.slice (some ⟨w.heap.size, 0, none⟩) (Lib.countB s sep + 1) (Lib.countB s sep + 1)) ∧ w' = w.alloc (.cells ((Lib.splitB sep 0 (Lib.countB s sep) s).map Value.string).toArray T)) : CallAt C f splitA := by
  intro args sg rs sg' h w M sm vs hl hr hs hg
  unfold splitA at h
  split at h
  · rename_i s sep
    have hsm : sm = [] := List.eq_nil_of_length_eq_zero hs.1.symm
    subst hsm
    obtain ⟨h1, h2⟩ := cond_any h
    simp only [Bool.and_eq_true, decide_eq_true_eq] at h1
    cases h2
    obtain ⟨⟨⟨g1, g2⟩, g3⟩, g4⟩ := h1
    obtain ⟨l⟩ := vs
    match l, hl with
    | [v0, v1], _ =>
      obtain rfl := rep_str (hr 0 _ v0 rfl rfl)
      obtain rfl := rep_str (hr 1 _ v1 rfl rfl)
      refine (hc s sep w M hg g1 g2).mono fun e w' hq => ?_
      obtain ⟨he, rfl⟩ := hq
      generalize hxs : Lib.splitB sep 0 (Lib.countB s sep) s = xs at g4
      rw [← g4] at he g3
      refine ⟨_, fun b => if b = w.heap.size then xs.length else M b, [], he, ?_, sigOk_nil _ _ _, [_], rfl, rfl, fun i e u he hu => ?_, fun i j e e' t t' n n' he he' h h' => ?_⟩
      · refine ⟨rfl, rfl, rfl, by show w.heap.size ≤ (w.heap.push _).size; simp, fun b hb _ => ?_, fun b hb => ?_, ⟨[], rfl, fun b hb => by cases hb⟩, fun i b k h => by simp at h⟩
        · exact heap_alloc_old w _ b hb
        · simp [Nat.ne_of_lt hb]
      · cases i with
        | zero =>
          simp only [List.getElem?_cons_zero, Option.some.injEq] at he hu
          subst he hu
          refine ⟨.dat (.sl (size := 1) (fun k => .string (xs.getD k ⟨#[]⟩)) (by simp) (Nat.le_refl _) g3 (fun _ => rfl) (fun e he => ?_) (fun k hk => ?_) (fun i j e d he hd => ?_)), trivial⟩
          · obtain ⟨x, _, rfl⟩ := List.mem_map.1 he; rfl
          · simp only [Nat.mul_one] at hk
            refine ⟨?_, ?_⟩
            · rw [addr_add, Nat.zero_add, cell_alloc]
              simp [List.getD_eq_getElem?_getD, hk]
            · show 0 + k < (if (w.heap.size : Nat) = w.heap.size then xs.length else M w.heap.size)
              rw [if_pos rfl]; omega
          · rw [List.getElem?_map, Option.map_eq_some_iff] at he
            obtain ⟨x, hx, rfl⟩ := he
            cases j with
            | zero =>
              simp only [List.getElem?_cons_zero, Option.some.injEq] at hd
              subst hd
              simp only [Nat.mul_one, Nat.add_zero, List.getD_eq_getElem?_getD, hx, Option.getD_some]
              exact .str _
            | succ j => simp at hd
        | succ i => simp at he
      · cases i with
        | zero =>
          simp only [List.getElem?_cons_zero, Option.some.injEq] at he
          subst he
          cases h
        | succ i => simp at he
  · cases h

def Sp.strings_Split (s sep : ByteArray) (γ : Type) (K : List (List Dat) → Option γ) : Option γ :=
  cond (decide (s.size < 4294967281) && decide (1 ≤ sep.size) && decide (Lib.countB s sep + 1 ≤ maxLen) && decide ((Lib.splitB sep 0 (Lib.countB s sep) s).length = Lib.countB s sep + 1))
    (K ((Lib.splitB sep 0 (Lib.countB s sep) s).map fun x => [.str x])) none
abbrev Ty_strings_Split : Type 1 := ByteArray → ByteArray → (γ : Type) → (List (List Dat) → Option γ) → Option γ
def P_strings_Split (X : Ty_strings_Split) (F : Ent3) : Ent3 := fun a s γ K => match a, s with
  | [.dat (.str x), .dat (.str sep)], [] => X x sep γ fun r => K ([(.dat (.sl r), .none)], [])
  | a, s => F a s γ K
theorem E_strings_Split (hp : C.prim f = some splitA) {F : Ent3} (hF : EntOk C f F) : EntOk C f (P_strings_Split Sp.strings_Split F) := by
  intro a s γ K q h
  unfold P_strings_Split at h
  split at h
  · rename_i x sep
    refine ent_prim (S := fun a s γ K => (splitA a s).bind K) (F := splitA) hp (fun a s γ K q h => h) _ _ γ K q ?_
    unfold Sp.strings_Split at h
    obtain ⟨h1, h2⟩ := cond_any h
    simp only [splitA, h1, cond_true]
    exact h2
  · exact hF _ _ _ _ _ h
end
end Go.Aev

end
