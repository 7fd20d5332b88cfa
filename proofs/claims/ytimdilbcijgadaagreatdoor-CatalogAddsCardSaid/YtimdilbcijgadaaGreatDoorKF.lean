/- The functions walked by hand, as the evaluator sees them. -/
import Derived.Test.YtimdilbcijgadaaGreatDoorKE
import Derived.Test.YtimdilbcijgadaaGreatDoorKC
import Derived.Test.YtimdilbcijgadaaGreatDoorKY
set_option linter.unusedVariables false
set_option linter.unusedSimpArgs false
namespace Go.Proofs.YtimdilbcijgadaaGreatDoor
open Go Go.Aev Go.RowKit

/-! ### names that stand once -/
def apartFrom : List ByteArray → List ByteArray → Bool
  | _, [] => true
  | acc, s :: r => cond (acc.any fun y => decide (y = s)) false (apartFrom (acc ++ [s]) r)
def nameKey (s : ByteArray) : Lit := .string s.data.toList

theorem key_same (acc : List ByteArray) (s : ByteArray) : ((acc.map nameKey).any fun y => y.sameKey (nameKey s)) = acc.any fun y => decide (y = s) := by
  rw [List.any_map]
  congr 1
  funext y
  show (nameKey y).sameKey (nameKey s) = decide (y = s)
  by_cases h : y = s
  · subst h
    rw [decide_eq_true rfl]
    exact (WideAt.sameKey_iff (show WideAt.IsKeyLit (nameKey y) from trivial)).2 rfl
  · rw [decide_eq_false h]
    cases hh : (nameKey y).sameKey (nameKey s) with
    | false => rfl
    | true =>
      have := (WideAt.sameKey_iff (show WideAt.IsKeyLit (nameKey s) from trivial)).1 hh
      unfold nameKey at this
      injection this with this
      exact absurd (data_inj this) h
theorem fold_le : ∀ (l : List Lit) (A : List Lit), (l.foldl Go.Maps.addKey A).length ≤ A.length + l.length
  | [], A => Nat.le_refl _
  | x :: l, A => by
    rw [List.foldl_cons]
    refine Nat.le_trans (fold_le l _) ?_
    unfold Go.Maps.addKey
    split <;> simp <;> omega
theorem fold_apart : ∀ (l acc : List ByteArray), decide (((l.map nameKey).foldl Go.Maps.addKey (acc.map nameKey)).length = acc.length + l.length) = apartFrom acc l
  | [], acc => by simp [apartFrom]
  | s :: r, acc => by
    have hA : Go.Maps.addKey (acc.map nameKey) (nameKey s) = if (acc.any fun y => decide (y = s)) = true then acc.map nameKey else acc.map nameKey ++ [nameKey s] := by
      unfold Go.Maps.addKey
      rw [key_same]
    rw [List.map_cons, List.foldl_cons, hA]
    unfold apartFrom
    cases h : acc.any fun y => decide (y = s) with
    | true =>
      simp only [if_true, cond_true]
      have := fold_le (r.map nameKey) (acc.map nameKey)
      simp only [List.length_map] at this
      exact decide_eq_false (by simp only [List.length_cons]; omega)
    | false =>
      simp only [Bool.false_eq_true, if_false, cond_false]
      have e : acc.map nameKey ++ [nameKey s] = (acc ++ [s]).map nameKey := by simp
      rw [e, ← fold_apart r (acc ++ [s])]
      simp only [List.length_append, List.length_cons, List.length_nil]
      congr 1
      rw [show acc.length + (0 + 1) + r.length = acc.length + (r.length + 1) by omega]
theorem size_apart (nm : List ByteArray) : decide (((Go.Maps.size (Sn (H := Unit) nm nm.length) : Nat) : Int) = (nm.length : Int)) = apartFrom [] nm := by
  unfold Sn keys
  rw [List.take_length]
  have := Go.Maps.size_setOf (.agg [] : DataW Unit) (nm.map nameKey) (fun x hx => by obtain ⟨s, _, rfl⟩ := List.mem_map.1 hx; trivial)
  rw [show (nm.map fun s => (Lit.string s.data.toList)) = nm.map nameKey from rfl, this, ← fold_apart nm []]
  simp only [List.map_nil, List.length_nil, Nat.zero_add]
  congr 1
  exact propext ⟨fun h => by omega, fun h => by omega⟩

def colNames : List (List Dat) → Option (List ByteArray)
  | [] => some []
  | e :: r => match e with
    | [.str _, .str b, .int .i64 _] => (colNames r).map (b :: ·)
    | _ => none
def tabNames : List (List Dat) → Option (List ByteArray)
  | [] => some []
  | e :: r => match e with
    | [.str b, .sl _, .sl _] => (tabNames r).map (b :: ·)
    | _ => none
def unlikeRes (l : List ByteArray) : Option Bool := cond (decide (l.length ≤ 1000000) && l.all fun s => decide (s.size ≤ 1099511627776)) (some (apartFrom [] l)) none
def unlikeF (g : Nat) (nf : List (List Dat) → Option (List ByteArray)) : List AVal → Sig → Option (List Ent × Sig) := fun a sg => match a, sg with
  | [.dat (.sl es), .clo (.func g') [] []], [] => cond (g' == g) (((nf es).bind unlikeRes).map fun b => ([(.dat (.bool b), .none)], [])) none
  | _, _ => none

theorem colNames_get : ∀ {es : List (List Dat)} {l : List ByteArray}, colNames es = some l → l.length = es.length ∧ ∀ i, i < es.length → ∃ a c, es[i]? = some [.str a, .str (l.getD i ByteArray.empty), .int .i64 c]
  | [], l, h => by cases h; exact ⟨rfl, fun i hi => by simp at hi⟩
  | e :: r, l, h => by
    unfold colNames at h
    split at h
    next a b c =>
      rw [Option.map_eq_some_iff] at h
      obtain ⟨l', h', rfl⟩ := h
      obtain ⟨h1, h2⟩ := colNames_get h'
      refine ⟨by simp [h1], fun i hi => ?_⟩
      cases i with
      | zero => exact ⟨a, c, by simp⟩
      | succ i =>
        obtain ⟨a', c', h3⟩ := h2 i (by simp at hi; omega)
        exact ⟨a', c', by simpa using h3⟩
    next => cases h
theorem tabNames_get : ∀ {es : List (List Dat)} {l : List ByteArray}, tabNames es = some l → l.length = es.length ∧ ∀ i, i < es.length → ∃ a c, es[i]? = some [.str (l.getD i ByteArray.empty), .sl a, .sl c]
  | [], l, h => by cases h; exact ⟨rfl, fun i hi => by simp at hi⟩
  | e :: r, l, h => by
    unfold tabNames at h
    split at h
    next b a c =>
      rw [Option.map_eq_some_iff] at h
      obtain ⟨l', h', rfl⟩ := h
      obtain ⟨h1, h2⟩ := tabNames_get h'
      refine ⟨by simp [h1], fun i hi => ?_⟩
      cases i with
      | zero => exact ⟨a, c, by simp⟩
      | succ i =>
        obtain ⟨a', c', h3⟩ := h2 i (by simp at hi; omega)
        exact ⟨a', c', by simpa using h3⟩
    next => cases h

theorem clo_val {w : World} {M : Nat → Nat} {sm : List Nat} {g : Nat} {v : Value} (h : RepB w M sm (.clo (.func g) [] []) v) : v = .func (.func g) #[] #[] := by
  cases h with
  | clo hl hl' _ _ =>
    simp only [List.length_nil] at hl hl'
    rw [Array.eq_empty_of_size_eq_zero hl.symm, Array.eq_empty_of_size_eq_zero hl'.symm]

theorem unlikeC_P {C : Cfg} (hP : C.P = Tryz.prog) (hd : C.dr = false) : CallAt C 41 (unlikeF 42 colNames) := by
  refine callAt_one hd (fun args sg rs sg' h => ?_) fun args sg rs sg' h w M vs hl hr hg => ?_
  · unfold unlikeF at h
    split at h
    · rfl
    · cases h
  · unfold unlikeF at h
    split at h
    case h_2 => cases h
    rename_i es g'
    obtain ⟨hgg, h2⟩ := cond_any h
    clear h
    have hgg : g' = 42 := by simpa using hgg
    subst hgg
    rw [Option.map_eq_some_iff] at h2
    obtain ⟨bb, hb, h2⟩ := h2
    cases h2
    rw [Option.bind_eq_some_iff] at hb
    obtain ⟨nm, hnm, hb⟩ := hb
    unfold unlikeRes at hb
    obtain ⟨hc, hb⟩ := cond_any hb
    cases hb
    simp only [Bool.and_eq_true, decide_eq_true_eq, List.all_eq_true] at hc
    obtain ⟨hlen, hszs⟩ := hc
    refine ⟨rfl, _, rfl, ?_⟩
    obtain ⟨vl⟩ := vs
    match vl, hl with
    | [v0, v1], _ =>
    have hv := hr 0 _ v0 rfl rfl
    obtain rfl := clo_val (hr 1 _ v1 rfl rfl)
    obtain ⟨hnl, hget⟩ := colNames_get hnm
    rw [hP]
    cases hv with
    | dat hv =>
    cases hv with
    | nilS =>
      obtain rfl : nm = [] := List.eq_nil_of_length_eq_zero hnl
      exact (unlikeC_none none 0 w).mono fun e w' ⟨he, hw⟩ => ⟨_, he, hw, .bool _⟩
    | @sl _ a n cap size us hn hcp hm hsp he hcell hrp =>
      subst hn
      by_cases h0 : es.length = 0
      · obtain rfl : es = [] := List.eq_nil_of_length_eq_zero h0
        obtain rfl : nm = [] := List.eq_nil_of_length_eq_zero hnl
        exact (unlikeC_none (some a) cap w).mono fun e w' ⟨he, hw⟩ => ⟨_, he, hw, .bool _⟩
      · obtain ⟨ab, ao, asp⟩ := a
        obtain rfl : asp = none := hsp (by omega)
        have hsz : size = 3 := by
          obtain ⟨a, c, h1⟩ := hget 0 (by omega)
          have := he _ (List.mem_of_getElem? h1)
          simpa using this.symm
        subst hsz
        have hall : ∀ i, i < es.length → ∃ (a : ByteArray) (c : Int), w.cell? ⟨ab, ao + i * 3, none⟩ = some (.string a) ∧ w.cell? ⟨ab, ao + i * 3 + 1, none⟩ = some (.string (nm.getD i ByteArray.empty)) ∧ w.cell? ⟨ab, ao + i * 3 + 2, none⟩ = some (.int .i64 c) := fun i hi => by
          obtain ⟨a, c, h1⟩ := hget i hi
          have k0 := (hcell (i * 3) (by omega)).1
          have k1 := (hcell (i * 3 + 1) (by omega)).1
          have k2 := (hcell (i * 3 + 2) (by omega)).1
          rw [add_eq rfl] at k0 k1 k2
          have r0 := hrp i 0 _ _ h1 rfl
          have r1 := hrp i 1 _ _ h1 rfl
          have r2 := hrp i 2 _ _ h1 rfl
          rw [Nat.add_zero] at r0
          generalize us (i * 3) = u0 at k0 r0
          generalize us (i * 3 + 1) = u1 at k1 r1
          generalize us (i * 3 + 2) = u2 at k2 r2
          cases r0; cases r1; cases r2
          exact ⟨a, c, k0, k1, k2⟩
        have hab : ab < w.heap.size := by
          obtain ⟨a, c, h1, _⟩ := hall 0 (by omega)
          exact lt_of_cell h1
        have h1 : ∀ i, ∃ (a : ByteArray) (c : Int), i < es.length → w.cell? ⟨ab, ao + i * 3, none⟩ = some (.string a) ∧ w.cell? ⟨ab, ao + i * 3 + 1, none⟩ = some (.string (nm.getD i ByteArray.empty)) ∧ w.cell? ⟨ab, ao + i * 3 + 2, none⟩ = some (.int .i64 c) := fun i => by
          by_cases hi : i < es.length
          · obtain ⟨a, c, h⟩ := hall i hi
            exact ⟨a, c, fun _ => h⟩
          · exact ⟨ByteArray.empty, 0, fun h => absurd h hi⟩
        obtain ⟨tb, h1⟩ := Classical.axiomOfChoice h1
        obtain ⟨ty, h1⟩ := Classical.axiomOfChoice h1
        refine (unlikeC_walk ab ao es.length cap nm (fun i => nm.getD i ByteArray.empty) tb ty w (fun i => rfl) hnl (by omega) hab (fun i hi => (h1 i hi).1) (fun i hi => (h1 i hi).2.1) (fun i hi => (h1 i hi).2.2) (fun s hs => by have := hszs s hs; unfold maxLen; omega)).mono ?_
        rintro e w' ⟨rfl, hw⟩
        refine ⟨_, rfl, hw, ?_⟩
        rw [← hnl, size_apart]
        exact .bool _

theorem unlikeT_P {C : Cfg} (hP : C.P = Tryz.prog) (hd : C.dr = false) : CallAt C 34 (unlikeF 35 tabNames) := by
  refine callAt_one hd (fun args sg rs sg' h => ?_) fun args sg rs sg' h w M vs hl hr hg => ?_
  · unfold unlikeF at h
    split at h
    · rfl
    · cases h
  · unfold unlikeF at h
    split at h
    case h_2 => cases h
    rename_i es g'
    obtain ⟨hgg, h2⟩ := cond_any h
    clear h
    have hgg : g' = 35 := by simpa using hgg
    subst hgg
    rw [Option.map_eq_some_iff] at h2
    obtain ⟨bb, hb, h2⟩ := h2
    cases h2
    rw [Option.bind_eq_some_iff] at hb
    obtain ⟨nm, hnm, hb⟩ := hb
    unfold unlikeRes at hb
    obtain ⟨hc, hb⟩ := cond_any hb
    cases hb
    simp only [Bool.and_eq_true, decide_eq_true_eq, List.all_eq_true] at hc
    obtain ⟨hlen, hszs⟩ := hc
    refine ⟨rfl, _, rfl, ?_⟩
    obtain ⟨vl⟩ := vs
    match vl, hl with
    | [v0, v1], _ =>
    have hv := hr 0 _ v0 rfl rfl
    obtain rfl := clo_val (hr 1 _ v1 rfl rfl)
    obtain ⟨hnl, hget⟩ := tabNames_get hnm
    rw [hP]
    cases hv with
    | dat hv =>
    cases hv with
    | nilS =>
      obtain rfl : nm = [] := List.eq_nil_of_length_eq_zero hnl
      exact (unlikeT_none none 0 w).mono fun e w' ⟨he, hw⟩ => ⟨_, he, hw, .bool _⟩
    | @sl _ a n cap size us hn hcp hm hsp he hcell hrp =>
      subst hn
      by_cases h0 : es.length = 0
      · obtain rfl : es = [] := List.eq_nil_of_length_eq_zero h0
        obtain rfl : nm = [] := List.eq_nil_of_length_eq_zero hnl
        exact (unlikeT_none (some a) cap w).mono fun e w' ⟨he, hw⟩ => ⟨_, he, hw, .bool _⟩
      · obtain ⟨ab, ao, asp⟩ := a
        obtain rfl : asp = none := hsp (by omega)
        have hsz : size = 3 := by
          obtain ⟨a, c, h1⟩ := hget 0 (by omega)
          have := he _ (List.mem_of_getElem? h1)
          simpa using this.symm
        subst hsz
        have hall : ∀ i, i < es.length → ∃ (a c : Option Addr × Nat × Nat), w.cell? ⟨ab, ao + i * 3, none⟩ = some (.string (nm.getD i ByteArray.empty)) ∧ w.cell? ⟨ab, ao + i * 3 + 1, none⟩ = some (.slice a.1 a.2.1 a.2.2) ∧ w.cell? ⟨ab, ao + i * 3 + 2, none⟩ = some (.slice c.1 c.2.1 c.2.2) := fun i hi => by
          obtain ⟨a, c, h1⟩ := hget i hi
          have k0 := (hcell (i * 3) (by omega)).1
          have k1 := (hcell (i * 3 + 1) (by omega)).1
          have k2 := (hcell (i * 3 + 2) (by omega)).1
          rw [add_eq rfl] at k0 k1 k2
          have r0 := hrp i 0 _ _ h1 rfl
          have r1 := hrp i 1 _ _ h1 rfl
          have r2 := hrp i 2 _ _ h1 rfl
          rw [Nat.add_zero] at r0
          have e1 : ∃ x : Option Addr × Nat × Nat, us (i * 3 + 1) = .slice x.1 x.2.1 x.2.2 := by
            generalize us (i * 3 + 1) = u1 at r1
            cases r1
            · exact ⟨(none, 0, 0), rfl⟩
            · exact ⟨(_, _, _), rfl⟩
          have e2 : ∃ x : Option Addr × Nat × Nat, us (i * 3 + 2) = .slice x.1 x.2.1 x.2.2 := by
            generalize us (i * 3 + 2) = u1 at r2
            cases r2
            · exact ⟨(none, 0, 0), rfl⟩
            · exact ⟨(_, _, _), rfl⟩
          obtain ⟨x1, e1⟩ := e1
          obtain ⟨x2, e2⟩ := e2
          generalize us (i * 3) = u0 at k0 r0
          cases r0
          exact ⟨x1, x2, k0, by rw [← e1]; exact k1, by rw [← e2]; exact k2⟩
        have hab : ab < w.heap.size := by
          obtain ⟨a, c, h1, _⟩ := hall 0 (by omega)
          exact lt_of_cell h1
        have h1 : ∀ i, ∃ (a c : Option Addr × Nat × Nat), i < es.length → w.cell? ⟨ab, ao + i * 3, none⟩ = some (.string (nm.getD i ByteArray.empty)) ∧ w.cell? ⟨ab, ao + i * 3 + 1, none⟩ = some (.slice a.1 a.2.1 a.2.2) ∧ w.cell? ⟨ab, ao + i * 3 + 2, none⟩ = some (.slice c.1 c.2.1 c.2.2) := fun i => by
          by_cases hi : i < es.length
          · obtain ⟨a, c, h⟩ := hall i hi
            exact ⟨a, c, fun _ => h⟩
          · exact ⟨(none, 0, 0), (none, 0, 0), fun h => absurd h hi⟩
        obtain ⟨s1, h1⟩ := Classical.axiomOfChoice h1
        obtain ⟨s2, h1⟩ := Classical.axiomOfChoice h1
        refine (unlikeT_walk ab ao es.length cap nm (fun i => nm.getD i ByteArray.empty) s1 s2 w (fun i => rfl) hnl (by omega) hab (fun i hi => (h1 i hi).1) (fun i hi => (h1 i hi).2.1) (fun i hi => (h1 i hi).2.2) (fun s hs => by have := hszs s hs; unfold maxLen; omega)).mono ?_
        rintro e w' ⟨rfl, hw⟩
        refine ⟨_, rfl, hw, ?_⟩
        rw [← hnl, size_apart]
        exact .bool _
end Go.Proofs.YtimdilbcijgadaaGreatDoor
