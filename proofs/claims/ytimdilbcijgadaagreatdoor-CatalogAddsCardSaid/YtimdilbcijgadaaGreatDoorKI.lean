/- page.Add, as the evaluator sees it. -/
import Derived.Test.YtimdilbcijgadaaGreatDoorKH
set_option linter.unusedVariables false
set_option linter.unusedSimpArgs false
namespace Go.Proofs.YtimdilbcijgadaaGreatDoor
open Go Go.Aev Go.RowKit

theorem two_out {C : Cfg} (hd : C.dr = false) {w w' : World} {M : Nat → Nat} {es : List (List Dat)} {T : TypeId} (hsz : ∀ e ∈ es, e.length = 1) {news : List Value}
    (hrep : ∀ (i j : Nat) e d, es[i]? = some e → e[j]? = some d → ∀ u, news[i * 1 + j]? = some u → Rep w M d u) {v' : Value} (hown : w'.ownsRow w.heap.size T 1 v' es.length news) (hbw : Below w.heap.size w w') (e : Int) :
    ∃ v M' sm', Ending.returned (Value.tuple #[v', .int .i64 e]) = Ending.returned v ∧ After C w w' M M' [] sm' ∧ SigOk C w' M' sm' [] ∧ RepRes w' M' sm' w.heap.size [(AVal.dat (.sl es), .none), (AVal.dat (.int .i64 e), .none)] v := by
  obtain ⟨v, M', sm', hv, hA, hS, hR⟩ := own_out hd (o := .none) (.inl rfl) hsz hrep hown hbw
  cases hv
  refine ⟨_, M', sm', rfl, hA, hS, [v', .int .i64 e], rfl, rfl, fun i x u hx hu => ?_, fun i j x y t t' n n' hx hy h1 h2 => ?_⟩
  · match i, hx, hu with
    | 0, hx, hu =>
      cases hx; cases hu
      obtain ⟨vs, h1, h2, h3, _⟩ := hR
      match vs, h1, h2 with
      | [u], h1, _ =>
        simp only at h1
        subst h1
        exact h3 0 _ _ rfl rfl
    | 1, hx, hu =>
      cases hx; cases hu
      exact ⟨.dat (.int _ _), trivial⟩
    | i + 2, hx, _ => simp at hx
  · match i, hx with
    | 0, hx => cases hx; cases h1
    | 1, hx => cases hx; cases h1
    | i + 2, hx => simp at hx

theorem nil_out {C : Cfg} (hd : C.dr = false) {w w' : World} {M : Nat → Nat} (hbw : Below w.heap.size w w') (e : Int) :
    ∃ v M' sm', Ending.returned (Value.tuple #[.slice none 0 0, .int .i64 e]) = Ending.returned v ∧ After C w w' M M' [] sm' ∧ SigOk C w' M' sm' [] ∧ RepRes w' M' sm' w.heap.size [(AVal.dat (.sl []), .none), (AVal.dat (.int .i64 e), .none)] v :=
  two_out hd (es := []) (T := 5) (news := []) (fun e he => by cases he) (fun i j e d he => by simp at he) (World.ownsRow_nil _ _ _ _) hbw e

theorem res3 {w : World} {M : Nat → Nat} {b : Nat} {l : List (List Dat)} {a e : Int} {u : Value} (h : RepRes w M [] b [(.dat (.sl l), .none), (.dat (.int .i64 a), .none), (.dat (.int .i64 e), .none)] u) :
    ∃ la lc, u = .tuple #[.slice la l.length lc, .int .i64 a, .int .i64 e] := by
  obtain ⟨vs, h1, h2, h3, _⟩ := h
  match vs, h1, h2 with
  | [x, y, z], h1, _ =>
    have hx := (h3 0 _ _ rfl rfl).1
    have hy := (h3 1 _ _ rfl rfl).1
    have hz := (h3 2 _ _ rfl rfl).1
    cases hx with
    | dat hx =>
    cases hy with
    | dat hy =>
    cases hz with
    | dat hz =>
    cases hy; cases hz
    obtain ⟨la, n, lc, rfl, rfl⟩ := rep_slice hx
    exact ⟨la, lc, h1⟩
theorem res2 {w : World} {M : Nat → Nat} {b : Nat} {l : List (List Dat)} {e : Int} {u : Value} (h : RepRes w M [] b [(.dat (.sl l), .none), (.dat (.int .i64 e), .none)] u) :
    ∃ la lc, u = .tuple #[.slice la l.length lc, .int .i64 e] ∧ Rep w M (.sl l) (.slice la l.length lc) := by
  obtain ⟨vs, h1, h2, h3, _⟩ := h
  match vs, h1, h2 with
  | [x, z], h1, _ =>
    have hx := (h3 0 _ _ rfl rfl).1
    have hz := (h3 1 _ _ rfl rfl).1
    cases hx with
    | dat hx =>
    cases hz with
    | dat hz =>
    cases hz
    obtain ⟨la, n, lc, rfl, rfl⟩ := rep_slice hx
    exact ⟨la, lc, h1, hx⟩

theorem scanAt_ok (p : Par) {es l : List (List Dat)} {a e : Int} (h : Y.Sp.page_scan es (List (List Dat) × Int × Int) (fun l a e => some (l, a, e)) = some (l, a, e)) {w : World} {M : Nat → Nat} {v : Value} (hv : Rep w M (.sl es) v) : ScanAt v w l.length a e := by
  refine (callY p rfl (scan_call p h) hv (.refl _ w)).mono ?_
  rintro r w2 ⟨u, M2, rfl, hb, hR⟩
  obtain ⟨la, lc, rfl⟩ := res3 hR
  exact ⟨la, lc, rfl, hb⟩
theorem fitsAt_ok (p : Par) {es b : List (List Dat)} {e : Int} {bs : List Value} (hbs : valsOf b = some bs) (h : Y.Sp.page_fits es (List (List Dat) × Int) (fun b e => some (b, e)) = some (b, e)) {w : World} {M : Nat → Nat} {v : Value} (hv : Rep w M (.sl es) v) : FitsAt v w bs e := by
  intro w1 hb1
  refine (callY p rfl (fits_call p h) hv hb1).mono ?_
  rintro r w2 ⟨u, M2, rfl, hb, hR⟩
  obtain ⟨la, lc, rfl, hr⟩ := res2 hR
  obtain ⟨h1, h2⟩ := sl_vals hbs hr
  exact ⟨la, lc, by rw [h1], hb, h2⟩
theorem cloneAt_ok {es : List (List Dat)} {ns : List Value} (hns : valsOf es = some ns) {w : World} {M : Nat → Nat} {v : Value} (hv : Rep w M (.sl es) v) (hl : es.length ≤ 1000) : CloneAt v w ns := by
  intro w1 hb1
  obtain ⟨i0, k1, k2, k3, k4⟩ := infoB
  refine (clone_raw (P := Tryz.prog) (ρ := Tryz.cloneL_renB) Tryz.cloneLB i0 _ 1 1 k1 k2 k3 k4 rfl (by decide) Tryz.sizeOf5 (hv.mono (keeps_cut M hb1)) (valsOf_sized hns) (by omega) (by omega)).mono ?_
  rintro e w' ⟨v', news, rfl, hown, hbw, hrep⟩
  have hn := vals_eq hns hown.1 hrep
  subst hn
  refine ⟨v', rfl, ?_, hbw⟩
  rw [(valsOf_get hns).1]
  exact hown

theorem bump_vals {es : List (List Dat)} {ns : List Value} (h : valsOf es = some ns) {c0 : Int} (h0 : ns[0]? = some (.int .u8 c0)) : valsOf (bump es) = some (ns.set 0 (.int .u8 ((c0 + 1) % 256))) := by
  cases es with
  | nil => cases h; simp at h0
  | cons e r =>
    unfold valsOf at h
    split at h
    next k n =>
      rw [Option.map_eq_some_iff] at h
      obtain ⟨l, hl, rfl⟩ := h
      simp at h0
      obtain ⟨rfl, rfl⟩ := h0
      simp [bump, valsOf, hl]
    next => cases h
theorem valsOf_append {a b : List (List Dat)} {x y : List Value} (ha : valsOf a = some x) (hb : valsOf b = some y) : valsOf (a ++ b) = some (x ++ y) := by
  induction a generalizing x with
  | nil => cases ha; exact hb
  | cons e r ih =>
    unfold valsOf at ha
    split at ha
    next k n =>
      rw [Option.map_eq_some_iff] at ha
      obtain ⟨l, hl, rfl⟩ := ha
      simp [valsOf, ih hl]
    next => cases ha
theorem valsOf_take {a : List (List Dat)} {x : List Value} (ha : valsOf a = some x) : ∀ n, valsOf (a.take n) = some (x.take n) := by
  induction a generalizing x with
  | nil => cases ha; intro n; simp [valsOf]
  | cons e r ih =>
    intro n
    unfold valsOf at ha
    split at ha
    next k m =>
      rw [Option.map_eq_some_iff] at ha
      obtain ⟨l, hl, rfl⟩ := ha
      cases n with
      | zero => rfl
      | succ n => simp [valsOf, ih hl n]
    next => cases ha
theorem valsOf_drop {a : List (List Dat)} {x : List Value} (ha : valsOf a = some x) : ∀ n, valsOf (a.drop n) = some (x.drop n) := by
  induction a generalizing x with
  | nil => cases ha; intro n; simp [valsOf]
  | cons e r ih =>
    intro n
    cases n with
    | zero => exact ha
    | succ n =>
      unfold valsOf at ha
      split at ha
      next k m =>
        rw [Option.map_eq_some_iff] at ha
        obtain ⟨l, hl, rfl⟩ := ha
        exact ih hl n
      next => cases ha
theorem valsOf_set {a : List (List Dat)} {x : List Value} (ha : valsOf a = some x) (k : IntKind) (m : Int) : ∀ n, valsOf (a.set n [.int k m]) = some (x.set n (.int k m)) := by
  induction a generalizing x with
  | nil => cases ha; intro n; simp [valsOf]
  | cons e r ih =>
    intro n
    unfold valsOf at ha
    split at ha
    next k m =>
      rw [Option.map_eq_some_iff] at ha
      obtain ⟨l, hl, rfl⟩ := ha
      cases n with
      | zero => simp [valsOf, hl]
      | succ n => simp [valsOf, ih hl n]
    next => cases ha
theorem addOut_vals {p b : List (List Dat)} {ns bs : List Value} (hp : valsOf p = some ns) (hb : valsOf b = some bs) {c0 : Int} (h0 : ns[0]? = some (.int .u8 c0)) (a L : Nat) :
    valsOf (addOut p b a L) = some (((splice (ns.set 0 (.int .u8 ((c0 + 1) % 256))) a bs).set (256 - 2 * (L + 1)) (.int .u8 ((a : Int) / 256))).set (256 - 2 * (L + 1) + 1) (.int .u8 (a : Int))) := by
  unfold addOut
  refine valsOf_set (valsOf_set ?_ _ _ _) _ _ _
  unfold splice
  have hbl := (valsOf_get hb).1
  rw [← hbl]
  exact valsOf_append (valsOf_take (bump_vals hp h0) _) (valsOf_append hb (valsOf_drop (bump_vals hp h0) _))
theorem vals_rep {w : World} {M : Nat → Nat} {es : List (List Dat)} {l : List Value} (h : valsOf es = some l) :
    ∀ (i j : Nat) e d, es[i]? = some e → e[j]? = some d → ∀ u, l[i * 1 + j]? = some u → Rep w M d u := fun i j e d he hd u hu => by
  obtain ⟨k, n, h3, h4⟩ := (valsOf_get h).2 i (List.getElem?_eq_some_iff.1 he).1
  rw [he] at h3
  cases h3
  have hj : j = 0 := by have := (List.getElem?_eq_some_iff.1 hd).1; simp at this; omega
  subst hj
  cases hd
  rw [Nat.mul_one, Nat.add_zero, h4] at hu
  cases hu
  exact .int _ _

theorem addP (p : Par) {C : Cfg} (hP : C.P = Tryz.prog) (hd : C.dr = false) : CallAt C 85 addF := by
  intro args sg rs sg' h w M sm vs hl hr hs hg
  unfold addF at h
  split at h
  case h_2 => cases h
  rename_i pp r
  rw [Option.map_eq_some_iff] at h
  obtain ⟨q, hq, h⟩ := h
  cases h
  have hsm : sm = [] := List.eq_nil_of_length_eq_zero hs.1.symm
  subst hsm
  obtain ⟨vl⟩ := vs
  match vl, hl with
  | [v0, v1], _ =>
  have hv0 := hr 0 _ v0 rfl rfl
  have hv1 := hr 1 _ v1 rfl rfl
  clear hr
  cases hv0 with
  | dat hv0 =>
  cases hv1 with
  | dat hv1 =>
  obtain ⟨pa, pn, pc, rfl, hpn⟩ := rep_slice hv0
  obtain ⟨ra, rn, rc, rfl, hrn⟩ := rep_slice hv1
  unfold addRes at hq
  rw [Option.bind_eq_some_iff] at hq
  obtain ⟨⟨l, a, e⟩, hscan, hq⟩ := hq
  have hS := scanAt_ok p hscan hv0
  simp only at hq
  rw [hP]
  by_cases he : e = 0
  case neg =>
    rw [decide_eq_false he, Bool.not_false, cond_true] at hq
    cases hq
    refine (add_bad pa pn pc ra rn rc w l.length a e he hS).mono ?_
    rintro x w' ⟨rfl, hb⟩
    exact nil_out hd hb e
  case pos =>
  subst he
  rw [decide_eq_true rfl, Bool.not_true, cond_false, Option.bind_eq_some_iff] at hq
  obtain ⟨⟨b, e2⟩, hfits, hq⟩ := hq
  simp only at hq
  by_cases he : e2 = 0
  case neg =>
    rw [decide_eq_false he, Bool.not_false, cond_true] at hq
    obtain ⟨hvb, hq⟩ := cond_any hq
    cases hq
    obtain ⟨bs, hbs⟩ := Option.isSome_iff_exists.1 hvb
    refine (add_odd pa pn pc ra rn rc w l.length a e2 he bs hS (fitsAt_ok p hbs hfits hv1)).mono ?_
    rintro x w' ⟨rfl, hb⟩
    exact nil_out hd hb e2
  case pos =>
  subst he
  rw [decide_eq_true rfl, Bool.not_true, cond_false] at hq
  unfold addRes2 at hq
  obtain ⟨hgd, hq⟩ := cond_any hq
  simp only [Bool.and_eq_true, decide_eq_true_eq] at hgd
  obtain ⟨⟨⟨⟨⟨⟨⟨hvp, hvb⟩, ha0⟩, ha1⟩, hl1⟩, hb1⟩, hp1⟩, hp0⟩ := hgd
  obtain ⟨ns, hns⟩ := Option.isSome_iff_exists.1 hvp
  obtain ⟨bs, hbs⟩ := Option.isSome_iff_exists.1 hvb
  have hF := fitsAt_ok p hbs hfits hv1
  obtain ⟨at_, rfl⟩ : ∃ k : Nat, a = (k : Int) := ⟨a.toNat, by omega⟩
  rw [Int.toNat_natCast] at hq
  have hbl := (valsOf_get hbs).1
  have hnl := (valsOf_get hns).1
  have hpn' : pn = 256 := by omega
  subst hpn'
  by_cases hfull : 255 ≤ l.length ∨ 256 < at_ + b.length + 2 * (l.length + 1)
  · have : (decide (255 ≤ l.length) || decide (256 < at_ + b.length + 2 * (l.length + 1))) = true := by simpa using hfull
    rw [this, cond_true] at hq
    cases hq
    refine (add_full pa pc ra rn rc w l.length at_ hl1 (by omega) bs (by omega) (by rw [hbl]; exact hfull) hS hF).mono ?_
    rintro x w' ⟨rfl, hb⟩
    exact nil_out hd hb 2
  · have : (decide (255 ≤ l.length) || decide (256 < at_ + b.length + 2 * (l.length + 1))) = false := by
      rw [Bool.or_eq_false_iff]
      exact ⟨decide_eq_false (by omega), decide_eq_false (by omega)⟩
    rw [this, cond_false] at hq
    cases hq
    obtain ⟨c0, hc0⟩ : ∃ c0, ns[0]? = some (.int .u8 c0) := by
      obtain ⟨k, n, h3, h4⟩ := (valsOf_get hns).2 0 (by omega)
      cases pp with
      | nil => simp at h3
      | cons e0 r0 =>
        simp only [List.getElem?_cons_zero, Option.some.injEq] at h3
        subst h3
        cases k <;> first | exact ⟨n, h4⟩ | cases hp0
    refine (add_good pa pc ra rn rc w l.length at_ bs (by omega) ns (by omega) c0 hc0 hS hF (cloneAt_ok hns hv0 (by omega)) (valsOf_one hbs)).mono ?_
    rintro x w' ⟨v', rfl, hown, hb⟩
    have hov := addOut_vals hns hbs hc0 at_ l.length
    have hol := (valsOf_get hov).1
    refine two_out hd (T := 5) (valsOf_sized hov) (vals_rep hov) ?_ hb 0
    have hlen := hown.1
    rw [← hol, hlen, Nat.mul_one]
    exact hown
end Go.Proofs.YtimdilbcijgadaaGreatDoor
