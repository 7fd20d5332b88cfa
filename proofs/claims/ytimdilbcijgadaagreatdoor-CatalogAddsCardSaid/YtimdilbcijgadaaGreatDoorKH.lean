/- catalog.Columns and page.Add, as the evaluator sees them. -/
import Derived.Test.YtimdilbcijgadaaGreatDoorKF
set_option linter.unusedVariables false
set_option linter.unusedSimpArgs false
namespace Go.Proofs.YtimdilbcijgadaaGreatDoor
open Go Go.Aev Go.RowKit

/-- marks below a world's end alone -/
def cutM (w : World) (M : Nat → Nat) : Nat → Nat := fun k => if k < w.heap.size then M k else 0
theorem keeps_cut {w w1 : World} (M : Nat → Nat) (h : Below w.heap.size w w1) : Keeps w w1 M (cutM w M) := fun a v hc hm => by
  have hlt := lt_of_cell hc
  exact ⟨(h.cell hlt).trans hc, by unfold cutM; rw [if_pos hlt]; exact hm⟩
theorem keeps_back {w w1 : World} (M : Nat → Nat) (h : Below w.heap.size w w1) : Keeps w1 w (cutM w M) M := fun a v hc hm => by
  unfold cutM at hm
  by_cases hlt : a.block < w.heap.size
  · rw [if_pos hlt] at hm
    exact ⟨(h.cell hlt).symm.trans hc, hm⟩
  · rw [if_neg hlt] at hm
    omega

theorem rep_slice {w : World} {M : Nat → Nat} {es : List (List Dat)} {v : Value} (h : Rep w M (.sl es) v) : ∃ a n c, v = .slice a n c ∧ n = es.length := by
  cases h with
  | nilS => exact ⟨_, _, _, rfl, rfl⟩
  | sl us hn => exact ⟨_, _, _, rfl, hn.symm⟩

/-! ### Columns -/
def setTab (s : ByteArray) : List Dat → List Dat
  | _ :: r => .str s :: r
  | [] => []
def colsF : List AVal → Sig → Option (List Ent × Sig) := fun a sg => match a, sg with
  | [.agg [(.str n, .none), (.sl cols, .none), (.sl rows, .none)], .dat (.str s)], [] => cond (sized cols 3 && decide (cols.length ≤ 1000000)) (some ([(.dat (.sl (cols.map (setTab s))), .none)], [])) none
  | _, _ => none

theorem infoC : ∃ i, Tryz.prog.info? 57 = some i ∧ i.zero = some (.agg #[.string ⟨#[]⟩, .string ⟨#[]⟩, .int .i64 0]) ∧ i.size = 3 ∧ i.bytes = 40 := info_parts (by kernel_rfl)
theorem infoB : ∃ i, Tryz.prog.info? 5 = some i ∧ i.zero = some (.int .u8 0) ∧ i.size = 1 ∧ i.bytes = 1 := info_parts (by kernel_rfl)

theorem columnsP {C : Cfg} (hP : C.P = Tryz.prog) (hd : C.dr = false) : CallAt C 18 colsF := by
  intro args sg rs sg' h w M sm vs hl hr hs hg
  unfold colsF at h
  split at h
  case h_2 => cases h
  rename_i n cols rows s
  obtain ⟨h1, h2⟩ := cond_any h
  cases h2
  simp only [Bool.and_eq_true, decide_eq_true_eq] at h1
  obtain ⟨hsized, hlen⟩ := h1
  have hsz : ∀ e ∈ cols, e.length = 3 := sized_iff.1 hsized
  have hsm : sm = [] := List.eq_nil_of_length_eq_zero hs.1.symm
  subst hsm
  obtain ⟨vl⟩ := vs
  match vl, hl with
  | [v0, v1], _ =>
  have hv := hr 0 _ v0 rfl rfl
  obtain rfl := rep_str (hr 1 _ v1 rfl rfl)
  clear hr
  cases hv with
  | @agg _ vs hll hh =>
  obtain ⟨cl⟩ := vs
  match cl, hll with
  | [u0, u1, u2], _ =>
  have r0 := (hh 0 _ u0 rfl rfl).1
  have r1 := (hh 1 _ u1 rfl rfl).1
  have r2 := (hh 2 _ u2 rfl rfl).1
  clear hh
  cases r0
  obtain ⟨a1, l1, c1, rfl, _⟩ := rep_slice r1
  obtain ⟨a2, l2, c2, rfl, _⟩ := rep_slice r2
  obtain ⟨i0, k1, k2, k3, k4⟩ := infoC
  have hb0 : Below w.heap.size w (w.alloc (.cells #[.string n, .slice a1 l1 c1, .slice a2 l2 c2] 29)) := (Below.refl _ w).alloc (Nat.le_refl _) _
  have hc := clone_raw (P := Tryz.prog) (ρ := Tryz.cloneL_renC) Tryz.cloneLC i0 _ 3 40 k1 k2 k3 k4 rfl (by decide) Tryz.sizeOf57 (r1.mono (keeps_cut M hb0)) hsz (by omega) (by omega)
  rw [hP]
  refine (cols_walk n a1 l1 c1 a2 l2 c2 s w cols.length hlen (fun news => ∀ (i j : Nat) e d, cols[i]? = some e → e[j]? = some d → ∀ u, news[i * 3 + j]? = some u → Rep w M d u) (hc.mono ?_)).mono ?_
  · rintro e w' ⟨v', news, rfl, hown, hbw, hrep⟩
    refine ⟨v', news, rfl, (by simpa using hown : w'.ownsRow (w.heap.size + 1) (Tryz.cloneL_renC.t 23) 3 v' cols.length news), by simpa using hbw, fun i j e d he hdd u hu => (hrep i j e d he hdd u hu).mono (keeps_back M hb0)⟩
  · rintro e w' ⟨v', news, rfl, hown, hbw, hrep⟩
    refine own_out hd (.inl rfl) (es := cols.map (setTab s)) (size := 3) (T := 57) (news := tabs s cols.length news) (fun e he => ?_) (fun i j e d he hdd u hu => ?_) (by rw [List.length_map]; exact hown) hbw
    · obtain ⟨x, hx, rfl⟩ := List.mem_map.1 he
      have := hsz x hx
      cases x with
      | nil => exact this
      | cons a r => simpa [setTab] using this
    · rw [List.getElem?_map, Option.map_eq_some_iff] at he
      obtain ⟨x, hx, rfl⟩ := he
      have hxl := hsz x (List.mem_of_getElem? hx)
      have hil : i < cols.length := (List.getElem?_eq_some_iff.1 hx).1
      obtain ⟨x0, x1, x2, rfl⟩ : ∃ a b c, x = [a, b, c] := by
        match x, hxl with
        | [a, b, c], _ => exact ⟨a, b, c, rfl⟩
      have hjl : j < 3 := by have := (List.getElem?_eq_some_iff.1 hdd).1; simpa [setTab] using this
      have hnl : news.length = cols.length * 3 := by have := hown.1; rw [tabs_len] at this; exact this
      rw [tabs_get s news cols.length _ (by omega)] at hu
      match j, hjl, hdd, hu with
      | 0, _, hdd, hu =>
        cases hdd
        rw [if_pos ⟨by omega, by omega⟩] at hu
        cases hu
        exact .str _
      | 1, _, hdd, hu =>
        cases hdd
        rw [if_neg (by omega)] at hu
        exact hrep i 1 _ _ hx rfl u hu
      | 2, _, hdd, hu =>
        cases hdd
        rw [if_neg (by omega)] at hu
        exact hrep i 2 _ _ hx rfl u hu

/-! ### Add -/
def valsOf : List (List Dat) → Option (List Value)
  | [] => some []
  | e :: r => match e with
    | [.int k n] => (valsOf r).map (Value.int k n :: ·)
    | _ => none
theorem valsOf_get : ∀ {es : List (List Dat)} {l : List Value}, valsOf es = some l → l.length = es.length ∧ ∀ i, i < es.length → ∃ k n, es[i]? = some [.int k n] ∧ l[i]? = some (.int k n)
  | [], l, h => by cases h; exact ⟨rfl, fun i hi => by simp at hi⟩
  | e :: r, l, h => by
    unfold valsOf at h
    split at h
    next k n =>
      rw [Option.map_eq_some_iff] at h
      obtain ⟨l', h', rfl⟩ := h
      obtain ⟨h1, h2⟩ := valsOf_get h'
      refine ⟨by simp [h1], fun i hi => ?_⟩
      cases i with
      | zero => exact ⟨k, n, by simp, by simp⟩
      | succ i =>
        obtain ⟨k', n', h3, h4⟩ := h2 i (by simp at hi; omega)
        exact ⟨k', n', by simpa using h3, by simpa using h4⟩
    next => cases h
theorem valsOf_one {es : List (List Dat)} {l : List Value} (h : valsOf es = some l) : ∀ v ∈ l, v.oneCell' = true := fun v hv => by
  obtain ⟨i, hi⟩ := List.getElem?_of_mem hv
  obtain ⟨h1, h2⟩ := valsOf_get h
  obtain ⟨k, n, _, h4⟩ := h2 i (by rw [← h1]; exact (List.getElem?_eq_some_iff.1 hi).1)
  rw [hi] at h4
  cases h4
  rfl
theorem valsOf_sized {es : List (List Dat)} {l : List Value} (h : valsOf es = some l) : ∀ e ∈ es, e.length = 1 := fun e he => by
  obtain ⟨i, hi⟩ := List.getElem?_of_mem he
  obtain ⟨k, n, h3, _⟩ := (valsOf_get h).2 i (List.getElem?_eq_some_iff.1 hi).1
  rw [hi] at h3
  cases h3
  rfl
/-- what stands for numbers -/
theorem vals_eq {w : World} {M : Nat → Nat} {es : List (List Dat)} {l news : List Value} (h : valsOf es = some l) (hn : news.length = es.length * 1)
    (hrep : ∀ (i j : Nat) e d, es[i]? = some e → e[j]? = some d → ∀ u, news[i * 1 + j]? = some u → Rep w M d u) : news = l := by
  obtain ⟨h1, h2⟩ := valsOf_get h
  apply List.ext_getElem?
  intro i
  by_cases hi : i < es.length
  · obtain ⟨k, n, h3, h4⟩ := h2 i hi
    have hg : news[i]? = some news[i] := List.getElem?_eq_getElem (by omega)
    have := hrep i 0 _ _ h3 rfl news[i] (by rw [Nat.mul_one, Nat.add_zero]; exact hg)
    rw [hg, h4]
    generalize news[i] = u at this
    cases this
    rfl
  · rw [List.getElem?_eq_none (by omega), List.getElem?_eq_none (by omega)]
theorem sl_vals {w : World} {M : Nat → Nat} {es : List (List Dat)} {l : List Value} {a : Option Addr} {n c : Nat} (h : valsOf es = some l) (hr : Rep w M (.sl es) (.slice a n c)) :
    n = l.length ∧ (0 < l.length → ∃ ad, a = some ad ∧ ad.block < w.heap.size ∧ ∀ j v, l[j]? = some v → w.cell? (ad.add j) = some v) := by
  obtain ⟨h1, h2⟩ := valsOf_get h
  cases hr with
  | nilS => exact ⟨h1.symm, fun h0 => by rw [h1] at h0; simp at h0⟩
  | @sl _ ad n cap size us hn hcp hm hsp he hcell hrp =>
    subst hn
    refine ⟨h1.symm, fun h0 => ?_⟩
    have hsz : size = 1 := by
      obtain ⟨k, n, h3, _⟩ := h2 0 (by omega)
      have := he _ (List.mem_of_getElem? h3)
      simpa using this.symm
    subst hsz
    have hall : ∀ j v, l[j]? = some v → w.cell? (ad.add j) = some v := fun j v hj => by
      have hjl : j < es.length := by rw [← h1]; exact (List.getElem?_eq_some_iff.1 hj).1
      obtain ⟨k, n, h3, h4⟩ := h2 j hjl
      have hc := (hcell j (by omega)).1
      have hv := hrp j 0 _ _ h3 rfl
      rw [Nat.mul_one, Nat.add_zero] at hv
      generalize us j = u at hc hv
      cases hv
      rw [hj] at h4
      cases h4
      exact hc
    refine ⟨ad, rfl, ?_, hall⟩
    have := hall 0 l[0] (List.getElem?_eq_getElem h0)
    have := lt_of_cell this
    rwa [add_block] at this

def bump : List (List Dat) → List (List Dat)
  | [.int .u8 c] :: r => [.int .u8 ((c + 1) % 256)] :: r
  | l => l
def addOut (p b : List (List Dat)) (a L : Nat) : List (List Dat) :=
  ((splice (bump p) a b).set (256 - 2 * (L + 1)) [.int .u8 ((a : Int) / 256)]).set (256 - 2 * (L + 1) + 1) [.int .u8 (a : Int)]
def addRes2 (p : List (List Dat)) (l : Nat) (at_ : Int) (b : List (List Dat)) : Option (List (List Dat) × Int) :=
  cond ((valsOf p).isSome && (valsOf b).isSome && decide (0 ≤ at_) && decide (at_ ≤ 1000) && decide (l ≤ 1000) && decide (b.length ≤ 1000) && decide (p.length = 256) && (match p with | [.int .u8 _] :: _ => true | _ => false))
    (cond (decide (255 ≤ l) || decide (256 < at_.toNat + b.length + 2 * (l + 1))) (some ([], 2)) (some (addOut p b at_.toNat l, 0))) none
def addRes (p r : List (List Dat)) : Option (List (List Dat) × Int) :=
  (Y.Sp.page_scan p (List (List Dat) × Int × Int) fun l a e => some (l, a, e)).bind fun x => cond (!decide (x.2.2 = 0)) (some ([], x.2.2)) <|
    (Y.Sp.page_fits r (List (List Dat) × Int) fun b e => some (b, e)).bind fun y => cond (!decide (y.2 = 0)) (cond (valsOf y.1).isSome (some ([], y.2)) none) (addRes2 p x.1.length x.2.1 y.1)
def addF : List AVal → Sig → Option (List Ent × Sig) := fun a sg => match a, sg with
  | [.dat (.sl p), .dat (.sl r)], [] => (addRes p r).map fun q => ([(.dat (.sl q.1), .none), (.dat (.int .i64 q.2), .none)], [])
  | _, _ => none

def scanK : List Ent × Sig → Option (List (List Dat) × Int × Int) := fun r => match r with
  | ([(.dat (.sl l), .none), (.dat (.int .i64 a), .none), (.dat (.int .i64 e), .none)], []) => some (l, a, e)
  | _ => none
def fitsK : List Ent × Sig → Option (List (List Dat) × Int) := fun r => match r with
  | ([(.dat (.sl b), .none), (.dat (.int .i64 e), .none)], []) => some (b, e)
  | _ => none
theorem scan_call (p : Par) {es l : List (List Dat)} {a e : Int} (h : Y.Sp.page_scan es (List (List Dat) × Int × Int) (fun l a e => some (l, a, e)) = some (l, a, e)) :
    callL (cfgY p) 100 [.dat (.sl es)] [] = some ([(.dat (.sl l), .none), (.dat (.int .i64 a), .none), (.dat (.int .i64 e), .none)], []) := by
  have h0 : Y.P_page_scan Y.Sp.page_scan none3 [.dat (.sl es)] [] (List (List Dat) × Int × Int) scanK = Y.Sp.page_scan es (List (List Dat) × Int × Int) (fun l a e => some (l, a, e)) := rfl
  obtain ⟨r, h1, h2⟩ := Y.E_page_scan p (ent_none _ _) _ _ _ _ _ (h0.trans h)
  rw [h1]
  unfold scanK at h2
  split at h2
  · cases h2; rfl
  · cases h2
theorem fits_call (p : Par) {es b : List (List Dat)} {e : Int} (h : Y.Sp.page_fits es (List (List Dat) × Int) (fun b e => some (b, e)) = some (b, e)) :
    callL (cfgY p) 101 [.dat (.sl es)] [] = some ([(.dat (.sl b), .none), (.dat (.int .i64 e), .none)], []) := by
  have h0 : Y.P_page_fits Y.Sp.page_fits none3 [.dat (.sl es)] [] (List (List Dat) × Int) fitsK = Y.Sp.page_fits es (List (List Dat) × Int) (fun b e => some (b, e)) := rfl
  obtain ⟨r, h1, h2⟩ := Y.E_page_fits p (ent_none _ _) _ _ _ _ _ (h0.trans h)
  rw [h1]
  unfold fitsK at h2
  split at h2
  · cases h2; rfl
  · cases h2
theorem globY (p : Par) (w : World) (M : Nat → Nat) : GlobOk (cfgY p) w M := ⟨fun i c h => (by cases h), fun i o h => (by cases h)⟩

/-- a call in the small set-up, from a world that has grown -/
theorem callY (p : Par) {f : FuncId} (hf : ownArgT f = none) {es : List (List Dat)} {rs : List Ent} (h : callL (cfgY p) f [.dat (.sl es)] [] = some (rs, [])) {w w1 : World} {M : Nat → Nat} {v : Value} (hv : Rep w M (.sl es) v) (hb : Below w.heap.size w w1) :
    Calls Tryz.prog f #[v] w1 fun e w2 => ∃ u M2, e = .returned u ∧ Below w1.heap.size w1 w2 ∧ RepRes w2 M2 [] w1.heap.size rs u := by
  refine ((callL_ok (cfgY_ok p) (primY_ok p)).plain f hf _ _ _ _ h w1 (cutM w M) [] #[v] rfl (fun i x u hx hu => ?_) (sigOk_nil _ _ _) (globY p _ _)).mono ?_
  · cases i with
    | zero =>
      simp at hx hu
      subst hx hu
      exact .dat (hv.mono (keeps_cut M hb))
    | succ i => simp at hx
  · rintro e w2 ⟨u, M2, sm', rfl, hA, hS, hR⟩
    have : sm' = [] := List.eq_nil_of_length_eq_zero hS.1.symm
    subst this
    exact ⟨u, M2, rfl, ⟨hA.os, hA.tape, hA.output.1, hA.size, fun b hb => hA.block b hb (fun ht => by rcases ht with h | ⟨c, h, _⟩ <;> cases h)⟩, hR⟩
end Go.Proofs.YtimdilbcijgadaaGreatDoor
