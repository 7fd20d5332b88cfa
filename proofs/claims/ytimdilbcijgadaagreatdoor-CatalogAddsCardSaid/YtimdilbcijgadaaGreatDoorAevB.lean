/- A deep evaluator for the code of the model, and its soundness: part 2. -/
import Derived.Test.YtimdilbcijgadaaGreatDoorAevA
set_option linter.unusedVariables false
set_option linter.unusedSimpArgs false
section
/- The evaluator's operations are the machine's: append, put together. -/
namespace Go.Aev

section
variable {C : Cfg} {w0 : World} {M0 : Nat → Nat} {sm0 : List Nat} {X0 : Nat → Bool} {g : Gh} {s : St} {a : Act} {w : World} {base : Nat} {P : Program}

/-- the elements of a slice, as its cells -/
theorem olds_of {M : Nat → Nat} {es : List (List Dat)} {bs : Option Addr} {n cap size : Nat} (hr : Rep w M (.sl es) (.slice bs n cap)) (hs : n ≠ 0 → ∀ e ∈ es, e.length = size) :
    es.length = n ∧ n ≤ cap ∧ cap ≤ maxLen ∧ ∃ olds : List Value, olds.length = n * size ∧ (∀ w', w'.heap = w.heap → (Builtin.firstCells size n (.slice bs n cap)).run P w' = .ok olds.toArray w') ∧
      (∀ ad, bs = some ad → ∀ k, k < n * size → w.cell? (ad.add k) = olds[k]? ∧ ad.off + k < M ad.block) ∧ (n ≠ 0 → ∀ ad, bs = some ad → ad.spot = none) ∧
      ∀ (i j : Nat) e d, es[i]? = some e → e[j]? = some d → ∃ v, olds[i * size + j]? = some v ∧ Rep w M d v := by
  cases hr with
  | nilS => exact ⟨rfl, Nat.le_refl _, by unfold maxLen; omega, [], by simp, fun w' _ => by simp [Builtin.firstCells], fun ad h => (by cases h), fun h0 => absurd rfl h0, fun i j e d he => by simp at he⟩
  | sl vs hn hc hm hsp he hcell hr =>
    rename_i ad size'
    refine ⟨hn, hc, hm, ?_⟩
    by_cases h0 : n = 0
    · subst h0
      have hnil : es = [] := List.eq_nil_of_length_eq_zero hn
      subst hnil
      refine ⟨[], by simp, fun w' _ => ?_, fun ad' h k hk => by simp at hk, fun h0 => absurd rfl h0, fun i j e d he => by simp at he⟩
      have := run_loadCells_list (P := P) w' ad [] (fun j v hj => by simp at hj)
      simpa [Builtin.firstCells] using this
    · have hsz : size' = size := by
        have hne : 0 < es.length := by omega
        have := List.getElem_mem hne
        rw [← he _ this, hs h0 _ this]
      subst hsz
      refine ⟨(List.range (n * size')).map vs, by simp, fun w' hw => ?_, fun ad' h k hk => ?_, fun h0 ad' h => by cases h; exact hsp (by omega), fun i j e d hi hj => ?_⟩
      · have := run_loadCells (P := P) w' ad (n * size') vs (fun j hj => by rw [cell_same hw]; exact (hcell j hj).1)
        simpa [Builtin.firstCells] using this
      · cases h
        obtain ⟨h1, h2⟩ := hcell k hk
        exact ⟨by rw [h1]; simp [hk], h2⟩
      · have hi' : i < n := by rw [← hn]; exact (List.getElem?_eq_some_iff.1 hi).1
        have hj' : j < size' := by rw [← he e (List.mem_of_getElem? hi)]; exact (List.getElem?_eq_some_iff.1 hj).1
        exact ⟨vs (i * size' + j), by simp [idx_lt hi' hj'], hr i j e d hi hj⟩

/-- the elements of both, one behind the other -/
theorem both_get {x : Value} {es fs : List (List Dat)} {olds news : List Value} {n m size : Nat} {M : Nat → Nat} (he : es.length = n) (ho : olds.length = n * size) (hsz : ∀ e ∈ es, e.length = size) (hn : News P w M size x fs m news)
    (hr : ∀ (i j : Nat) e d, es[i]? = some e → e[j]? = some d → ∃ v, olds[i * size + j]? = some v ∧ Rep w M d v) :
    ∀ (i j : Nat) e d v, (es ++ fs)[i]? = some e → e[j]? = some d → (olds ++ news)[i * size + j]? = some v → Rep w M d v := by
  intro i j e d v hi hj hv
  by_cases hlt : i < n
  · rw [List.getElem?_append_left (by omega)] at hi
    have hj' : j < size := by rw [← hsz e (List.mem_of_getElem? hi)]; exact (List.getElem?_eq_some_iff.1 hj).1
    rw [List.getElem?_append_left (by rw [ho]; exact idx_lt hlt hj')] at hv
    obtain ⟨u, h1, h2⟩ := hr i j e d hi hj
    rw [h1] at hv
    cases hv
    exact h2
  · rw [List.getElem?_append_right (by omega), he] at hi
    obtain ⟨u, h1, h2⟩ := hn.rep (i - n) j e d hi hj
    have hle : n * size ≤ i * size := Nat.mul_le_mul_right _ (by omega)
    rw [List.getElem?_append_right (by rw [ho]; omega), ho] at hv
    have : i * size + j - n * size = (i - n) * size + j := by rw [Nat.sub_mul]; omega
    rw [this, h1] at hv
    cases hv
    exact h2

/-- in place: the row's free room takes what is new -/
theorem Inv.fillRow (hI : Inv C w0 M0 sm0 X0 g s a w) {t b n cap m size : Nat} {es fs : List (List Dat)} {cur : Array Value} {T : TypeId} {olds news : List Value} (hb : w.heap[b]? = some (.cells cur T (0, 0))) (hnc : n + m ≤ cap) (hcm : cap ≤ maxLen)
    (hcs : cur.size = cap * size) (hM : g.M b = n * size) (hR : g.R b = .own t) (hbase : w0.heap.size ≤ b ∨ g.gv b = true) (hes : es.length = n) (hfs : fs.length = m) (hlo : olds.length = n * size) (hln : news.length = m * size)
    (ho : ∀ k, k < n * size → cur[k]? = olds[k]?) (hse : ∀ e ∈ es ++ fs, e.length = size)
    (hr : ∀ (i j : Nat) e d v, (es ++ fs)[i]? = some e → e[j]? = some d → (olds ++ news)[i * size + j]? = some v → Rep w g.M d v) (dst : Option Nat) :
    ∃ g', Inv C w0 M0 sm0 X0 g' (Dl.apply (.clr t (.dat (.sl (es ++ fs)), .id t size)) s dst) (a.put dst (.slice (some ⟨b, 0, none⟩) (n + m) cap))
      (w.setRow b (cur.toList.take (n * size) ++ news ++ cur.toList.drop (n * size + news.length)).toArray) := by
  have hnm : (n + m) * size ≤ cap * size := Nat.mul_le_mul_right _ hnc
  rw [Nat.add_mul] at hnm
  let cur' := (cur.toList.take (n * size) ++ news ++ cur.toList.drop (n * size + news.length)).toArray
  have hget : ∀ k, cur'[k]? = if n * size ≤ k ∧ k < n * size + news.length then news[k - n * size]? else cur[k]? := fun k => row_get cur (n * size) news k (by omega)
  have hsz' : cur'.size = cap * size := by simp [cur']; omega
  have hcell : ∀ k, (w.setRow b cur').cell? ⟨b, k, none⟩ = cur'[k]? := fun k => cell_setRow_same w b k cur cur' T (0, 0) hb
  have hboth : ∀ k, k < (n + m) * size → cur'[k]? = (olds ++ news)[k]? := by
    intro k hk
    rw [Nat.add_mul] at hk
    rw [hget]
    by_cases h : k < n * size
    · rw [if_neg (by omega), ho k h, List.getElem?_append_left (by omega)]
    · rw [if_pos (by omega), List.getElem?_append_right (by omega), hlo]
  let u : Value := .slice (some ⟨b, 0, none⟩) (n + m) cap
  have h1 := hI.clear t u
  let g2 : Gh := { g.setOg t u with M := fun x => if x = b then (n + m) * size else g.M x }
  have hM2 : ∀ x, x ≠ b → g2.M x = g.M x := fun x hx => if_neg hx
  have hx : Ext w (w.setRow b cur') (g.setOg t u) g2 w0.heap.size := by
    refine ⟨fun ad v hc hm => ?_, fun _ _ h => h, fun _ _ h => h, fun k size' hrow => ⟨rfl, ?_⟩⟩
    · by_cases hab : ad.block = b
      · have hsp := spot_of_cell hc
        have hm' : ad.off < n * size := by rw [← hM, ← hab]; exact hm
        have had : ad = ⟨b, ad.off, none⟩ := by cases ad; simp_all
        rw [had] at hc ⊢
        rw [cell_of_row w b _ cur T (0, 0) hb] at hc
        refine ⟨?_, ?_⟩
        · rw [hcell, hget, if_neg (by omega)]; exact hc
        · show ad.off < (if b = b then (n + m) * size else _)
          rw [if_pos rfl, Nat.add_mul]
          omega
      · exact ⟨by rw [cell_setRow_other w b cur' ad hab]; exact hc, by rw [hM2 _ hab]; exact hm⟩
    · by_cases hk : k = t
      · subst hk
        have hog : (g.setOg k u).og k = u := if_pos rfl
        rw [hog] at hrow ⊢
        rcases hrow with hrow | ⟨b', n', cap', cur'', T', e1, e2, e3, e4, e5, e6, e7, e8⟩
        · exact .inl hrow
        · injection e1 with e1 en ec
          injection e1 with e1
          injection e1 with e1
          subst e1 en ec
          refine .inr ⟨b, n + m, cap, cur', T, rfl, setRow_heap w b cur cur' T (0, 0) hb, hnc, hcm, ?_, ?_, hR, hbase⟩
          · rw [hb] at e2
            injection e2 with e2
            injection e2 with e2
            subst e2
            rw [hsz', ← hcs, e5]
          · show (if b = b then (n + m) * size else _) = _
            rw [if_pos rfl]
            have e6' : g.M b = (n + m) * size' := e6
            rw [hb] at e2
            injection e2 with e2
            injection e2 with e2
            subst e2
            have hcc : cap * size = cap * size' := by rw [← hcs, e5]
            rcases Nat.eq_zero_or_pos cap with h0 | h0
            · have : n + m = 0 := by omega
              rw [this]; simp
            · rw [Nat.eq_of_mul_eq_mul_left h0 hcc]
      · have hog : (g.setOg t u).og k = g.og k := if_neg hk
        rw [hog] at hrow ⊢
        rcases hrow with hrow | ⟨b', n', cap', cur'', T', e1, e2, e3, e4, e5, e6, e7, e8⟩
        · exact .inl hrow
        · have hbb : b' ≠ b := by
            rintro rfl
            rw [show (g.setOg t u).R b' = g.R b' from rfl, hR] at e7
            injection e7 with e7
            exact hk e7.symm
          exact .inr ⟨b', n', cap', cur'', T', e1, by rw [setRow_other w b b' cur' hbb]; exact e2, e3, e4, e5, by rw [hM2 _ hbb]; exact e6, e7, e8⟩
  obtain ⟨f1, f2, f3, f4⟩ := setRow_facts C w b cur'
  have hne : ∀ x, (∀ k, (g.setOg t u).R x ≠ .own k) → x ≠ b := by
    rintro x hx rfl
    exact hx t hR
  have h2 : Inv C w0 M0 sm0 X0 g2 (s.clear t) a (w.setRow b cur') :=
    h1.step hx f1 f2 f3 (by rw [f4]; exact Nat.le_refl _) (fun x _ hno => setRow_other w b x cur' (hne x hno))
      (fun x hlt hx0 => by
        have hxb : x ≠ b := by
          rintro rfl
          rcases hbase with hb | hb
          · omega
          · rw [hI.low.2.2.2, hx0] at hb; cases hb
        exact ⟨setRow_other w b x cur' hxb, hM2 x hxb⟩)
      (fun x _ hno => hM2 x (hne x hno)) (fun _ _ _ => rfl) rfl rfl rfl
  refine ⟨g2, h2.put (e := (.dat (.sl (es ++ fs)), .id t size)) ⟨.dat ?_, ?_⟩ dst⟩
  · refine .sl (fun k => cur'.getD k undef) (by simp [hes, hfs]) hnc hcm (fun _ => rfl) hse (fun k hk => ?_) fun i j e d hi hj => ?_
    · have hlt : k < cur'.size := by rw [hsz']; rw [Nat.add_mul] at hk; omega
      rw [add_eq rfl, Nat.zero_add, hcell, Array.getElem?_eq_getElem hlt]
      refine ⟨by simp [Array.getD, hlt], ?_⟩
      show k < (if b = b then (n + m) * size else _)
      rw [if_pos rfl]; exact hk
    · have hi' : i < n + m := by rw [← hes, ← hfs, ← List.length_append]; exact (List.getElem?_eq_some_iff.1 hi).1
      have hj' : j < size := by rw [← hse e (List.mem_of_getElem? hi)]; exact (List.getElem?_eq_some_iff.1 hj).1
      have hk := idx_lt hi' hj'
      have hlt : i * size + j < cur'.size := by rw [hsz']; rw [Nat.add_mul] at hk; omega
      have hv := hboth _ hk
      have hc : cur'[i * size + j]? = some (cur'.getD (i * size + j) undef) := by rw [Array.getElem?_eq_getElem hlt]; simp [Array.getD, hlt]
      exact (hr i j e d _ hi hj (by rw [← hv]; exact hc)).mono hx.keeps
  · refine ⟨(if_pos rfl).symm, .inr ⟨b, n + m, cap, cur', T, rfl, setRow_heap w b cur cur' T (0, 0) hb, hnc, hcm, hsz', ?_, hR, hbase⟩⟩
    show (if b = b then (n + m) * size else _) = _
    rw [if_pos rfl]

/-- nothing new: the slice stays -/
theorem Inv.keepRow (hI : Inv C w0 M0 sm0 X0 g s a w) {t size : Nat} {es : List (List Dat)} {bs : Option Addr} {n : Nat} (hr : Rep w g.M (.sl es) (.slice bs n n)) (hst : strictO t = true → n = 0) (dst : Option Nat) :
    ∃ g', Inv C w0 M0 sm0 X0 g' (Dl.apply (.clr t (.dat (.sl es), .id t size)) s dst) (a.put dst (.slice bs n n)) w := by
  have h1 := hI.clear t (.slice bs n n)
  exact ⟨_, h1.put (e := (.dat (.sl es), .id t size)) ⟨.dat hr, (if_pos rfl).symm, .inl ⟨bs, n, rfl, hst⟩⟩ dst⟩

theorem append_run {t u ty el : TypeId} {du : TypeDesc} {i : TypeInfo} {es fs : List (List Dat)} {dy : Dat} {own : Own} {v x : Value} (hI : Inv C w0 M0 sm0 X0 g s a w)
    (ht : C.P.underlying t = some (.slice el)) (hu : C.P.underlying u = some du) (hi : C.P.info? el = some i) (hv : RepE w g w0.heap.size (.dat (.sl es), own) v) (hx : Rep w g.M dy x) (hfs : newsA C.P el du dy = some fs)
    (hsz : sized fs i.size = true) (hse : sized es i.size = true) (hroom : (es.length + fs.length) * (i.bytes + 1) ≤ roomMax) (t' : Nat)
    (hown : own = .id t' i.size ∨ (own = .full ∧ strictO t' = false)) (hz : zeroOk i = true) (dst : Option Nat) :
    ∃ v' w' g', (Builtin.append_ #[t, u] ty #[v, x]).run C.P w = .ok v' w' ∧ Inv C w0 M0 sm0 X0 g' (Dl.apply (.clr t' (.dat (.sl (es ++ fs)), .id t' i.size)) s dst) (a.put dst v') w' := by
  obtain ⟨m, news, hN, hk⟩ := news_of (P := C.P) hfs hx hsz
  obtain ⟨hrep, ho⟩ := hv
  have hrep := hrep.dat_inv
  obtain ⟨z, hz, hzs⟩ : ∃ z, i.zero = some z ∧ z.cells.size = i.size := by
    unfold zeroOk at hz
    split at hz
    · exact ⟨_, by assumption, by simpa using hz⟩
    · cases hz
  have hbv : ∃ bs n cap, v = .slice bs n cap := by
    cases hrep with
    | nilS => exact ⟨_, _, _, rfl⟩
    | sl => exact ⟨_, _, _, rfl⟩
  obtain ⟨bs, n, cap, rfl⟩ := hbv
  have hse' := sized_iff.1 hse
  obtain ⟨hes, hnc, hcm, olds, hlo, hof, hoc, hosp, hor⟩ := olds_of (P := C.P) hrep (size := i.size) fun _ => hse'
  have hboth := both_get hes hlo hse' hN hor
  unfold roomMax at hroom
  rw [hes, hN.len] at hroom
  have hb1 : (n + m) * i.bytes ≤ 70368744177664 ∧ n + m ≤ 70368744177664 := by
    rw [Nat.mul_add, Nat.mul_one] at hroom
    generalize (n + m) * i.bytes = q at *
    omega
  have hall : ∀ e ∈ es ++ fs, e.length = i.size := by
    intro e he
    rcases List.mem_append.1 he with he | he
    · exact hse' e he
    · exact hN.each e he
  by_cases hfit : n + m ≤ cap
  · -- there is room
    have full : cap = n → (strictO t' = true → n = 0) → ∃ v' w' g', (Builtin.append_ #[t, u] ty #[.slice bs n cap, x]).run C.P w = .ok v' w' ∧ Inv C w0 M0 sm0 X0 g' (Dl.apply (.clr t' (.dat (.sl (es ++ fs)), .id t' i.size)) s dst) (a.put dst v') w' := by
      rintro rfl hst
      have hm0 : m = 0 := by omega
      subst hm0
      have hf0 : fs = [] := List.eq_nil_of_length_eq_zero hN.len
      have hn0 : news = [] := List.eq_nil_of_length_eq_zero (by rw [hN.nsize]; simp)
      subst hf0 hn0
      rw [List.append_nil]
      have hrun := run_append_lies (P := C.P) (ty := ty) (w := w) (w' := w) (bs := bs) (cap := cap) ht hu hk hi hN.lenOf (hN.cells w rfl) hfit (fun ad _ => rfl) (fun _ => rfl)
      obtain ⟨g', hI'⟩ := hI.keepRow (t := t') (size := i.size) hrep hst dst
      exact ⟨_, _, g', hrun, hI'⟩
    rcases hown with rfl | ⟨rfl, hns⟩
    · obtain ⟨hog, hrow⟩ := ho
      rcases hrow with ⟨a', n', e1, hst⟩ | ⟨b, n', cap', cur, T, e1, e2, e3, e4, e5, e6, e7, e8⟩
      · injection e1 with _ e2 e3
        exact full (by omega) (fun h => by have := hst h; omega)
      · injection e1 with e1 en ec
        subst e1 en ec
        have hst := run_storeCells_at C.P b (n * i.size) T news 0 cur w e2 (by
          rw [e5, hN.nsize, Nat.add_zero, ← Nat.add_mul]; exact Nat.mul_le_mul_right _ hfit) hN.one
        simp only [Nat.add_zero] at hst
        have hrun := run_append_lies (P := C.P) (ty := ty) (w := w) (bs := some ⟨b, 0, none⟩) (cap := cap) ht hu hk hi hN.lenOf (hN.cells w rfl) hfit (fun ad had => by
          cases had
          rw [add_eq rfl, Nat.zero_add]
          exact hst) (fun h => by cases h)
        obtain ⟨g', hI'⟩ := hI.fillRow (t := t') (n := n) (m := m) (cap := cap) (size := i.size) (es := es) (fs := fs) (olds := olds) (news := news) e2 hfit hcm e5 e6 e7 e8 hes hN.len hlo hN.nsize (fun k hk => by
          have := (hoc _ rfl k hk).1
          rw [add_eq rfl, Nat.zero_add, cell_of_row w b _ cur T (0, 0) e2] at this
          exact this) hall hboth dst
        exact ⟨_, _, g', hrun, hI'⟩
    · obtain ⟨a', n', e1⟩ := ho
      injection e1 with _ e2 e3
      exact full (by omega) (fun h => by rw [hns] at h; cases h)
  · -- a new row
    have hg : cap < n + m := by omega
    have hrun := run_append_grows (P := C.P) (ty := ty) (w := w) (bs := bs) ht hu hk hi hz hN.lenOf (hN.cells w.drew rfl) (hof w.drew rfl) hg (by omega) (growslice_fits hg (by omega))
    have hcap := grownCap_ge w (n + m) cap el
    have hcm' := grownCap_le_maxLen w (n + m) cap el (by unfold maxLen; omega)
    have hI1 := hI.same (w' := w.drew) rfl rfl rfl ⟨rfl, fun _ => Nat.le_succ _⟩
    obtain ⟨g', hI'⟩ := hI1.newRow (t := t') (size := i.size) (n := n + m) (cap := grownCap w (n + m) cap el) (es := es ++ fs)
      (olds ++ news ++ (Builtin.zeroCells z.cells (grownCap w (n + m) cap el - (n + m))).toList).toArray el (by simp [hes, hN.len]) hcap hcm' (by
        simp only [List.size_toArray, List.length_append, hlo, hN.nsize, Array.length_toList, size_zeroCells, hzs, ← Nat.add_mul]
        congr 1
        omega) hall (fun k j e d v he hd hv => by
        have hj : j < i.size := by rw [← hall e (List.mem_of_getElem? he)]; exact (List.getElem?_eq_some_iff.1 hd).1
        have hk' : k < n + m := by rw [← hes, ← hN.len, ← List.length_append]; exact (List.getElem?_eq_some_iff.1 he).1
        have := idx_lt hk' hj
        rw [List.getElem?_toArray, List.getElem?_append_left (by rw [List.length_append, hlo, hN.nsize, ← Nat.add_mul]; exact this)] at hv
        exact Rep.mono (w := w) (w' := w.drew) (M := g.M) (M' := g.M) (fun _ _ h h' => ⟨h, h'⟩) (hboth k j e d v he hd hv)) dst
    exact ⟨_, _, g', hrun, hI'⟩
end
end Go.Aev

end
section
/- The evaluator's operations are the machine's: the rest of those that only look. -/
namespace Go.Aev

section
variable {w : World} {g : Gh} {base : Nat} {P : Program}

theorem binA_run {op : BinOp} {t : TypeId} {ox oy : Operand} {x y : AVal} {vx vy : Value} {d : Dat} (h : binA P op t x y some = some d) (hx : RepA w g base x vx) (hy : RepA w g base y vy) :
    ∃ v, ((eqGuard op t ox oy vx vy) >>= fun _ => binOp op t vx vy).run P w = .ok v w ∧ Rep w g.M d v := by
  unfold binA at h
  split at h
  · obtain ⟨h1, h2⟩ := cond_none rfl h
    cases hx.dat_inv; cases hy.dat_inv
    have hu := isBoolT_some h1
    cases op <;> simp only [reduceCtorEq, Option.some.injEq] at h2 <;> subst h2
    · exact ⟨_, by simp [eqGuard, binOp, run_equal_bool w t _ _ hu], .bool _⟩
    · exact ⟨_, by simp [eqGuard, binOp, run_equal_bool w t _ _ hu], .bool _⟩
  · have hxd := hx.dat_inv
    have hyd := hy.dat_inv
    obtain ⟨v, h1, h2⟩ := datBin_run (P := P) t h hxd hyd
    refine ⟨v, ?_, h2⟩
    have hg : eqGuard op t ox oy vx vy = pure () := by
      unfold datBin at h
      split at h
      · cases hxd; exact eqGuard_at_int _ _ _ _ _ _ _
      · cases hxd; exact eqGuard_at_string _ _ _ _ _ _
      · cases h
    rw [hg]
    simpa using h1
  · rename_i xs ys
    obtain ⟨ax, rfl, hlx, hrx⟩ := hx.agg_inv
    obtain ⟨ay, rfl, hly, hry⟩ := hy.agg_inv
    have main : ∀ (b : Bool), isAggT P t = true → ((flatT P 12 t).bind fun ps => cellsEq ps xs ys) = some b → (Op.equalIn 10000 t (.agg ax) (.agg ay)).run P w = .ok b w := by
      intro b ha hb
      simp only [Option.bind_eq_some_iff] at hb
      obtain ⟨ps, hps, hc⟩ := hb
      have := equalIn_flat (P := P) (w := w) (g := g) 12 10000 t ps xs ys ax ay b (by omega) hps hc hlx hly (fun i c v hc hv => (hrx i c v hc hv).1) (fun i c v hc hv => (hry i c v hc hv).1)
      simpa [valOf, ha] using this
    cases op <;> simp only [reduceCtorEq] at h
    · obtain ⟨h1, h2⟩ := cond_none rfl h
      simp only [Bool.and_eq_true, Bool.not_eq_true'] at h1
      split at h2
      · rename_i b hb
        cases h2
        exact ⟨_, by simp [run_eqGuard_agg w .eql t ox oy ax ay h1.2, run_eql_struct w t ax ay, main b h1.1 hb], .bool _⟩
      · cases h2
    · obtain ⟨h1, h2⟩ := cond_none rfl h
      simp only [Bool.and_eq_true, Bool.not_eq_true'] at h1
      split at h2
      · rename_i b hb
        cases h2
        exact ⟨_, by simp [run_eqGuard_agg w .neq t ox oy ax ay h1.2, run_neq_struct w t ax ay, main b h1.1 hb], .bool _⟩
      · cases h2
  · cases h

theorem isIfcT_some {t : TypeId} (h : isIfcT P t = true) : ∃ ms, P.underlying t = some (.interface ms) := by
  unfold isIfcT at h
  split at h
  · exact ⟨_, by assumption⟩
  · cases h
theorem nilA_run {op : BinOp} {t : TypeId} {ox oy : Operand} {x : AVal} {vx : Value} {d : Dat} (hno : nilO oy = true) (h : nilA P op t x some = some d) (hx : RepA w g base x vx) :
    ∃ v, ((eqGuard op t ox oy vx .nilIface) >>= fun _ => binOp op t vx .nilIface).run P w = .ok v w ∧ Rep w g.M d v := by
  have hoy : oy = .const .nilIface := by
    unfold nilO at hno
    split at hno
    · rfl
    · cases hno
  subst hoy
  have main : ∀ {d : Dat} (v : Value), Rep w g.M d v → isIfc d = true → isIfcT P t = true → (Op.equal t v .nilIface).run P w = .ok (isNilI d) w ∧ ∀ op, (eqGuard op t ox (.const .nilIface) v .nilIface) = pure () := by
    intro d v hr hi ht
    obtain ⟨ms, hu⟩ := isIfcT_some ht
    have key : ∀ v : Value, (Op.equal t v .nilIface).run P w = (Op.equalIn (9999 + 1) t v .nilIface).run P w := fun v => rfl
    cases hr <;> first | cases hi | skip
    · refine ⟨?_, fun op => ?_⟩
      · rw [key, Op.equalIn]
        simp [run_underlying hu, isNilI]
      · cases op <;> simp [eqGuard]
    · refine ⟨?_, fun op => ?_⟩
      · rw [key, Op.equalIn]
        simp [run_underlying hu, isNilI]
      · cases op <;> simp [eqGuard]
  unfold nilA at h
  split at h
  · obtain ⟨h1, h2⟩ := cond_none rfl h
    cases h2
    rw [Bool.and_eq_true] at h1
    obtain ⟨m1, m2⟩ := main _ hx.dat_inv h1.2 h1.1
    exact ⟨_, by rw [m2]; simp [binOp, m1], .bool _⟩
  · obtain ⟨h1, h2⟩ := cond_none rfl h
    cases h2
    rw [Bool.and_eq_true] at h1
    obtain ⟨m1, m2⟩ := main _ hx.dat_inv h1.2 h1.1
    exact ⟨_, by rw [m2]; simp [binOp, m1], .bool _⟩
  · cases h

theorem unA_run {op : UnOp} {x : AVal} {vx : Value} {d : Dat} (h : unA op x some = some d) (hx : RepA w g base x vx) : ∃ v, (Op.unary op vx).run P w = .ok v w ∧ Rep w g.M d v := by
  unfold unA at h
  split at h
  · cases hx.dat_inv; cases h
    exact ⟨_, rfl, .int _ _⟩
  · cases hx.dat_inv; cases h
    exact ⟨_, rfl, .bool _⟩
  · cases h

theorem boundA_some {β : Type} {ρa : Operand → Ent} {ρ : Operand → Value} (hρ : ∀ x, RepE w g base (ρa x) (ρ x)) {x : Option Operand} {d : Int} {F : Int → Option β} {r : β} (h : boundA ρa x d F = some r) :
    ∃ n, F n = some r ∧ (x = none ∧ n = d ∨ ∃ k o, x = some o ∧ ρ o = .int k n) := by
  unfold boundA at h
  split at h
  · exact ⟨d, h, .inl ⟨rfl, rfl⟩⟩
  · rename_i o
    obtain ⟨v, hv, h⟩ := asDat_some h
    split at h
    · rename_i k n
      have := (hρ o).1
      rw [hv] at this
      refine ⟨n, h, .inr ⟨k, o, rfl, ?_⟩⟩
      cases hr : ρ o <;> rw [hr] at this <;> cases this.dat_inv
      rfl
    · cases h

theorem sliceBound_ok {k : IntKind} {i : Int} {y : Nat} {code : BoundsCode} (h0 : 0 ≤ i) (h1 : i ≤ y) : (Instr.sliceBound (.int k i) y code).run P w = .ok i.toNat w := run_sliceBound w k i y code h0 h1

/-- the bounds of a slice expression without a third one -/
theorem sliceBounds_two {isS : Bool} {len cap : Nat} {ρ : Operand → Value} {lo hi : Option Operand} {l h : Int} (h0 : 0 ≤ l) (h1 : l ≤ h) (h2 : h ≤ cap)
    (hl : lo = none ∧ l = 0 ∨ ∃ k o, lo = some o ∧ ρ o = .int k l) (hh : hi = none ∧ h = len ∨ ∃ k o, hi = some o ∧ ρ o = .int k h) :
    (Instr.sliceBounds isS len cap (lo.map ρ) (hi.map ρ) none).run P w = .ok (l.toNat, h.toNat, cap) w := by
  have eh : (h.toNat : Int) = h := Int.toNat_of_nonneg (by omega)
  rcases hl with ⟨rfl, rfl⟩ | ⟨k, o, rfl, ho⟩ <;> rcases hh with ⟨rfl, rfl⟩ | ⟨k', o', rfl, ho'⟩
  · simp [Instr.sliceBounds]
  · simp [Instr.sliceBounds, ho', run_sliceBound w k' h cap _ (by omega) h2]
  · simp [Instr.sliceBounds, ho, run_sliceBound w k l len _ h0 (by omega)]
  · simp [Instr.sliceBounds, ho, ho', run_sliceBound w k' h cap _ (by omega) h2, run_sliceBound w k l h.toNat _ h0 (by omega)]

theorem sliceBounds_three {len cap : Nat} {ρ : Operand → Value} {lo : Option Operand} {oh om : Operand} {kh km : IntKind} {l h : Int} (h0 : 0 ≤ l) (h1 : l ≤ h) (h2 : h ≤ cap)
    (hl : lo = none ∧ l = 0 ∨ ∃ k o, lo = some o ∧ ρ o = .int k l) (hh : ρ oh = .int kh h) (hm : ρ om = .int km h) :
    (Instr.sliceBounds true len cap (lo.map ρ) (some (ρ oh)) (some (ρ om))).run P w = .ok (l.toNat, h.toNat, h.toNat) w := by
  have eh : (h.toNat : Int) = h := Int.toNat_of_nonneg (by omega)
  rcases hl with ⟨rfl, rfl⟩ | ⟨k, o, rfl, ho⟩
  · simp [Instr.sliceBounds, hh, hm, run_sliceBound w km h cap _ (by omega) h2, run_sliceBound w kh h h.toNat _ (by omega) (by omega)]
  · simp [Instr.sliceBounds, ho, hh, hm, run_sliceBound w km h cap _ (by omega) h2, run_sliceBound w kh h h.toNat _ (by omega) (by omega), run_sliceBound w k l h.toNat _ h0 (by omega)]

/-- a part of a slice -/
theorem rep_sub {M : Nat → Nat} {es : List (List Dat)} {bs : Option Addr} {n cap size l h m : Nat} (hr : Rep w M (.sl es) (.slice bs n cap)) (hlh : l ≤ h) (hh : h ≤ es.length) (hhm : h ≤ m) (hmc : m ≤ cap) (hs : l ≠ 0 → ∀ e ∈ es, e.length = size) :
    Rep w M (.sl ((es.take h).drop l)) (.slice (if m = l then bs else bs.map (·.add (l * size))) (h - l) (m - l)) := by
  cases hr with
  | nilS =>
    have : m = l := by simp at hh; omega
    rw [if_pos this]
    obtain rfl : h = 0 := by simpa using hh
    obtain rfl : l = 0 := by omega
    subst this
    simp
    exact .nilS
  | sl vs hn hc hm' hsp he hcell hr =>
    rename_i ad size'
    have hlen : ((es.take h).drop l).length = h - l := by simp; omega
    by_cases hml : m = l
    · rw [if_pos hml]
      have h0 : h - l = 0 := by omega
      have hnil : (es.take h).drop l = [] := List.eq_nil_of_length_eq_zero (by omega)
      rw [hnil, h0]
      exact .sl vs rfl (by omega) (by omega) (fun h => absurd h (by omega)) (size := size') (fun e he => by simp at he) (fun k hk => by simp at hk) (fun i j e d hi => by simp at hi)
    · rw [if_neg hml]
      have key : l = 0 ∨ size' = size := by
        by_cases h0 : l = 0
        · exact .inl h0
        · right
          by_cases hne : 0 < es.length
          · have := List.getElem_mem hne
            rw [← he _ this, hs h0 _ this]
          · omega
      have hadd : (ad.add (l * size)) = ad.add (l * size') := by
        rcases key with rfl | rfl
        · simp
        · rfl
      simp only [Option.map_some, hadd]
      refine .sl (fun k => vs (l * size' + k)) hlen (by omega) (by omega) (fun h => add_spot (hsp (by omega)) _) (size := size') (fun e hm2 => he e (List.mem_of_mem_take (List.mem_of_mem_drop hm2))) (fun k hk => ?_) (fun i j e d hi hj => ?_)
      · have : l * size' + k < n * size' := by
          have h3 : (h - l) * size' + l * size' = h * size' := by rw [← Nat.add_mul]; congr 1; omega
          have h4 : h * size' ≤ n * size' := Nat.mul_le_mul_right _ (by omega)
          omega
        obtain ⟨h1, h2⟩ := hcell _ this
        rw [add_add, add_block, add_off]
        exact ⟨h1, by omega⟩
      · rw [List.getElem?_drop] at hi
        have hi' : es[l + i]? = some e := by
          rw [List.getElem?_take] at hi
          split at hi
          · exact hi
          · cases hi
        have := hr (l + i) j e d hi' hj
        rwa [show l * size' + (i * size' + j) = (l + i) * size' + j by rw [Nat.add_mul]; omega]

theorem esBytes_rep {M : Nat → Nat} : ∀ {es : List (List Dat)} {l : List UInt8}, esBytes es = some l → es.length = l.length ∧ ∀ (i : Nat) e, es[i]? = some e → ∃ n, e = [.int .u8 n] ∧ l[i]? = some (UInt8.ofNat n.toNat)
  | [], l, h => by cases h; exact ⟨rfl, fun i e he => by simp at he⟩
  | x :: r, l, h => by
    unfold esBytes at h
    split at h
    · rename_i hx; cases hx
    · rename_i n r' hx
      injection hx with h1 h2
      subst h1 h2
      simp only [Option.map_eq_some_iff] at h
      obtain ⟨l', hl', rfl⟩ := h
      obtain ⟨h3, h4⟩ := esBytes_rep (M := M) hl'
      refine ⟨by simp [h3], fun i e he => ?_⟩
      cases i with
      | zero => simp at he; subst he; exact ⟨n, rfl, rfl⟩
      | succ i => exact h4 i e (by simpa using he)
    · cases h

end
end Go.Aev

end
section
/- The evaluator's operations are the machine's: conversions, parts, places. -/
namespace Go.Aev

section
variable {C : Cfg} {w0 : World} {M0 : Nat → Nat} {sm0 : List Nat} {X0 : Nat → Bool} {g : Gh} {s : St} {a : Act} {w : World} {base : Nat} {P : Program}

theorem byteT_some {P : Program} {e : TypeId} (h : (match P.underlying e with
      | some (.int .u8) => true
      | _ => false) = true) : P.underlying e = some (.int .u8) := by
  split at h
  · assumption
  · cases h

def numsOf (es : List (List Dat)) : List Int := es.map fun e => match e with
  | [.int _ n] => n
  | _ => 0

theorem numsOf_length (es : List (List Dat)) : (numsOf es).length = es.length := by simp [numsOf]

theorem esBytes_nums : ∀ {es : List (List Dat)} {l : List UInt8}, esBytes es = some l → l = (numsOf es).map fun n => UInt8.ofNat n.toNat
  | [], l, h => by cases h; rfl
  | x :: r, l, h => by
    unfold esBytes at h
    split at h
    · rename_i hx; cases hx
    · rename_i n r' hx
      injection hx with h1 h2
      subst h1 h2
      simp only [Option.map_eq_some_iff] at h
      obtain ⟨l', hl', rfl⟩ := h
      rw [esBytes_nums hl']
      rfl
    · cases h

theorem conv_run {src dst : TypeId} {x : AVal} {v : Value} {d : Dat} (hI : Inv C w0 M0 sm0 X0 g s a w) (hx : RepA w g w0.heap.size x v) (h : convA C.P src dst x some = some d) (ds : Option Nat) :
    ∃ u w' g', (convert src dst v).run C.P w = .ok u w' ∧ Inv C w0 M0 sm0 X0 g' (s.put ds (.dat d, .none)) (a.put ds u) w' := by
  unfold convA at h
  split at h
  · rename_i k' k _ n h1 h2
    cases hx.dat_inv; cases h
    exact ⟨_, w, g, by simp [convert, run_underlying h1, run_underlying h2, Conv.intToInt], hI.put (e := (.dat _, .none)) ⟨.dat (.int _ _), trivial⟩ ds⟩
  · rename_i b h1 h2
    cases hx.dat_inv; cases h
    exact ⟨_, w, g, by simp [convert, run_underlying h1, run_underlying h2], hI.put (e := (.dat _, .none)) ⟨.dat (.str _), trivial⟩ ds⟩
  · rename_i e b h1 h2
    cases hx.dat_inv
    obtain ⟨h3, h4⟩ := cond_none rfl h
    cases h4
    simp only [Bool.and_eq_true, decide_eq_true_eq] at h3
    obtain ⟨h3, hb⟩ := h3
    have he := byteT_some h3
    have hrun := run_bytes_of_string (P := C.P) w src dst e b h1 h2 he
    have hI1 := hI.same (w' := w.drew) rfl rfl rfl ⟨rfl, fun _ => Nat.le_succ _⟩
    let row := bytesRow b (grownCap w b.size 0 e)
    have hI2 := hI1.alloc (.cells row e (row.size, row.size + 1)) .imm b.size
    have hge := grownCap_ge w b.size 0 e
    have hrs : row.size = grownCap w b.size 0 e := by
      simp only [row, bytesRow, Array.size_append, Array.size_map, Array.size_replicate]
      have : b.data.size = b.size := rfl
      omega
    have hcell : ∀ k, (w.drew.alloc (.cells row e (row.size, row.size + 1))).cell? ⟨w.heap.size, k, none⟩ = row[k]? := by
      intro k
      unfold World.cell?
      rw [show (w.drew.alloc (.cells row e (row.size, row.size + 1))).heap[w.heap.size]? = some (.cells row e (row.size, row.size + 1)) from heap_alloc_new w.drew _]
      rfl
    refine ⟨_, _, _, hrun, hI2.put (e := (.dat (.sl (bytesEs b)), .none)) ⟨.dat ?_, trivial⟩ ds⟩
    have hbs : b.size ≤ maxLen := by unfold maxStr at hb; unfold maxLen; omega
    refine .sl (fun k => row.getD k undef) (bytesEs_length b) hge (grownCap_le_maxLen w b.size 0 e hbs) (fun _ => rfl) (size := 1) (fun x hx => ?_) (fun k hk => ?_) (fun i j x d hi hj => ?_)
    · unfold bytesEs at hx
      obtain ⟨y, _, rfl⟩ := List.mem_map.1 hx
      rfl
    · rw [Nat.mul_one] at hk
      have hlt : k < row.size := by omega
      rw [add_eq rfl, Nat.zero_add, hcell, Array.getElem?_eq_getElem hlt]
      refine ⟨by simp [Array.getD, hlt], ?_⟩
      show k < (if w.heap.size = w.heap.size then b.size else _)
      rw [if_pos rfl]; exact hk
    · unfold bytesEs at hi
      rw [List.getElem?_map, Option.map_eq_some_iff] at hi
      obtain ⟨y, hy, rfl⟩ := hi
      cases j with
      | succ j => simp at hj
      | zero =>
        simp at hj
        subst hj
        have hlt : i < b.data.size := by
          have := (List.getElem?_eq_some_iff.1 hy).1
          simpa using this
        have : row.getD (i * 1 + 0) undef = .int .u8 y.toNat := by
          simp only [Nat.mul_one, Nat.add_zero, row, bytesRow, Array.getD_eq_getD_getElem?]
          rw [Array.getElem?_append_left (by simpa using hlt), Array.getElem?_map, ← Array.getElem?_toList, hy]
          rfl
        rw [this]
        exact .int _ _
  · rename_i e es h1 h2
    obtain ⟨h3, h4⟩ := cond_none rfl h
    have he := byteT_some h3
    split at h4
    · rename_i l hl
      cases h4
      obtain ⟨h5, h6⟩ := esBytes_rep (M := g.M) hl
      have hrep := hx.dat_inv
      cases hrep with
      | nilS =>
        cases hl
        refine ⟨_, w, g, run_convert_bytes_nil w src e h1 he 0 0 dst h2, hI.put (e := (.dat _, .none)) ⟨.dat (.str _), trivial⟩ ds⟩
      | sl vs hn hc hm hsp hel hcell hr =>
        rename_i ad n cap size
        have hs1 : n ≠ 0 → size = 1 := by
          intro h0
          have hne : 0 < es.length := by omega
          obtain ⟨k, hk, _⟩ := h6 0 es[0] (List.getElem?_eq_getElem hne)
          rw [← hel _ (List.getElem_mem hne), hk]
          rfl
        have hx := esBytes_nums hl
        by_cases hz : n = 0
        · subst hz
          have hnil : es = [] := List.eq_nil_of_length_eq_zero hn
          subst hnil
          cases hl
          refine ⟨_, w, g, ?_, hI.put (e := (.dat _, .none)) ⟨.dat (.str _), trivial⟩ ds⟩
          have hl0 : (loadCells ad 0).run C.P w = .ok (([] : List Int).map (Value.int .u8)).toArray w := by
            have := run_loadCells_list (P := C.P) w ad [] (fun j v hj => by simp at hj)
            simpa using this
          have := run_convert_bytes_string w src dst e (some ad) 0 cap h1 he h2
          rw [this, run_bytesToString w _ 0 cap [] hl0]
          rfl
        have hrun := run_convert_bytes_arg w src e h1 he ad.block ad.off n cap (numsOf es) (by rw [numsOf_length]; exact hn) (fun j hj => by
          have hjn : j < es.length := by omega
          have hn0 : n ≠ 0 := by omega
          obtain ⟨k, hk, hk2⟩ := h6 j es[j] (List.getElem?_eq_getElem hjn)
          have hs1 := hs1 hn0
          subst hs1
          have hc := (hcell j (by omega)).1
          have hr' := hr j 0 es[j] (.int .u8 k) (List.getElem?_eq_getElem hjn) (by rw [hk]; rfl)
          rw [add_eq (hsp (by omega))] at hc
          simp only [Nat.mul_one, Nat.add_zero] at hr'
          rw [hc]
          have : (numsOf es).getD j 0 = k := by
            rw [List.getD_eq_getElem?_getD, numsOf, List.getElem?_map, List.getElem?_eq_getElem hjn, hk]
            rfl
          rw [this]
          generalize vs j = u at hr'
          cases hr'
          rfl) dst h2
        have hA : (⟨ad.block, ad.off, none⟩ : Addr) = ad := by have := hsp (by omega); cases ad; cases this; rfl
        rw [hA] at hrun
        have hstr : strOfNums (numsOf es) = ⟨l.toArray⟩ := by rw [hx]; rfl
        rw [hstr] at hrun
        exact ⟨_, w, g, hrun, hI.put (e := (.dat _, .none)) ⟨.dat (.str _), trivial⟩ ds⟩
    · cases h4
  · cases h

end
end Go.Aev

end
section
/- What a call does, as its caller sees it. -/
namespace Go.Aev

/-- what stands behind a call's outset -/
def gh0 (M : Nat → Nat) (sm : List Nat) : Gh := { M := M, R := fun _ => .imm, lm := fun _ => none, sm := sm, og := fun _ => undef }

/-- every builder has a buffer of its own -/
def BufsOk (C : Cfg) (w : World) (sm : List Nat) : Prop :=
  ∀ (i : Nat) b k, sm[i]? = some b → bufOf C w b = some k → k ∉ sm ∧ ∀ (j : Nat) c, sm[j]? = some c → bufOf C w c = some k → i = j

/-- what others see is as the evaluator has it -/
def SigOk (C : Cfg) (w : World) (M : Nat → Nat) (sm : List Nat) (sg : Sig) : Prop :=
  sg.length = sm.length ∧ sm.Nodup ∧ (∀ (i : Nat) b bx, sm[i]? = some b → sg[i]? = some bx → SBoxOk C w (gh0 M sm) i b bx) ∧ BufsOk C w sm

theorem SigOk.box {C : Cfg} {w : World} {M : Nat → Nat} {sm : List Nat} {sg : Sig} (h : SigOk C w M sm sg) {i b : Nat} (hi : sm[i]? = some b) : ∃ bx, sg[i]? = some bx ∧ SBoxOk C w (gh0 M sm) i b bx := by
  have hl : i < sg.length := by rw [h.1]; exact (List.getElem?_eq_some_iff.1 hi).1
  exact ⟨_, List.getElem?_eq_getElem hl, h.2.2.1 i b _ hi (List.getElem?_eq_getElem hl)⟩

theorem SigOk.touch {C : Cfg} {w : World} {M : Nat → Nat} {sm : List Nat} {sg : Sig} (h : SigOk C w M sm sg) {b : Nat} (hb : Touch C w sm b) : M b = 0 := by
  rcases hb with hb | ⟨c, hc, hb⟩
  · obtain ⟨i, hi⟩ := List.getElem?_of_mem hb
    obtain ⟨bx, _, h3⟩ := h.box hi
    exact h3.M0
  · obtain ⟨i, hi⟩ := List.getElem?_of_mem hc
    obtain ⟨bx, _, h3⟩ := h.box hi
    exact (h3.bufM hb).1

open Classical in
/-- what blocks that others see are for -/
noncomputable def rolesOf (C : Cfg) (w : World) (sm : List Nat) (R : Nat → Role) (b : Nat) : Role :=
  if b ∈ sm then .sig (sm.idxOf b) else if h : ∃ i, ∃ c, sm[i]? = some c ∧ bufOf C w c = some b then .buf h.choose else R b

theorem rolesOf_sig {C : Cfg} {w : World} {sm : List Nat} {R : Nat → Role} (hn : sm.Nodup) {i b : Nat} (hi : sm[i]? = some b) : rolesOf C w sm R b = .sig i := by
  have hlt : i < sm.length := (List.getElem?_eq_some_iff.1 hi).1
  have : sm.idxOf b = i := by
    obtain ⟨_, rfl⟩ := List.getElem?_eq_some_iff.1 hi
    exact hn.idxOf_getElem i hlt
  unfold rolesOf
  rw [if_pos (List.mem_of_getElem? hi), this]

theorem rolesOf_buf {C : Cfg} {w : World} {sm : List Nat} {R : Nat → Role} (hn : BufsOk C w sm) {i b k : Nat} (hi : sm[i]? = some b) (hk : bufOf C w b = some k) : rolesOf C w sm R k = .buf i := by
  have hex : ∃ i, ∃ c, sm[i]? = some c ∧ bufOf C w c = some k := ⟨i, b, hi, hk⟩
  unfold rolesOf
  rw [if_neg (hn i b k hi hk).1, dif_pos hex]
  obtain ⟨c, h1, h2⟩ := hex.choose_spec
  exact congrArg Role.buf ((hn i b k hi hk).2 _ c h1 h2).symm

structure GlobOk (C : Cfg) (w : World) (M : Nat → Nat) : Prop where
  glob : ∀ i cells, C.glob i = some cells → RepB w M [] (.imm cells) (.pointer (some ⟨i, 0, none⟩))
  low : ∀ i o, C.low i = some o → w.heap[i]? = some o ∧ 0 < M i

/-- the room behind a slice that was handed out -/
def FreshRow (w : World) (M : Nat → Nat) (sm : List Nat) (base size : Nat) (v : Value) : Prop :=
  (∃ a n, v = .slice a n n) ∨
  ∃ b n cap cur T, v = .slice (some ⟨b, 0, none⟩) n cap ∧ w.heap[b]? = some (.cells cur T (0, 0)) ∧ n ≤ cap ∧ cap ≤ maxLen ∧ cur.size = cap * size ∧ M b = n * size ∧ base ≤ b ∧ b ∉ sm

def MarkRes (w : World) (M : Nat → Nat) (sm : List Nat) (base : Nat) (o : Own) (v : Value) : Prop :=
  match o with
  | .none => True
  | .full => False
  | .id _ size => FreshRow w M sm base size v

/-- the results -/
def RepRes (w : World) (M : Nat → Nat) (sm : List Nat) (base : Nat) (rs : List Ent) (v : Value) : Prop :=
  ∃ vs : List Value, (match vs with | [u] => v = u | _ => v = .tuple vs.toArray) ∧ rs.length = vs.length ∧
    (∀ (i : Nat) (e : Ent) u, rs[i]? = some e → vs[i]? = some u → RepB w M sm e.1 u ∧ MarkRes w M sm base e.2 u) ∧
    ∀ (i j : Nat) (e e' : Ent) (t t' n n' : Nat), rs[i]? = some e → rs[j]? = some e' → e.2 = .id t n → e'.2 = .id t' n' → i = j

/-- what a call leaves of what was there -/
structure After (C : Cfg) (w w' : World) (M M' : Nat → Nat) (sm sm' : List Nat) : Prop where
  os : w'.os = w.os
  tape : w'.tape = w.tape
  output : OutOk C w' w
  size : w.heap.size ≤ w'.heap.size
  block : ∀ b, b < w.heap.size → ¬ Touch C w sm b → w'.heap[b]? = w.heap[b]?
  marks : ∀ b, b < w.heap.size → M' b = M b
  smp : ∃ r, sm' = sm ++ r ∧ ∀ b ∈ r, w.heap.size ≤ b
  bufs : ∀ (i : Nat) b k, sm'[i]? = some b → bufOf C w' b = some k → k < w.heap.size → sm[i]? = some b ∧ bufOf C w b = some k

def noX : Nat → Bool := fun _ => false

/-- the row that a call is given -/
def Given (w : World) (M : Nat → Nat) (z : Nat) (v : Value) (X : Nat → Bool) : Prop :=
  (∃ a n, v = .slice a n n ∧ X = noX) ∨ ∃ b n cap cur T, v = .slice (some ⟨b, 0, none⟩) n cap ∧ w.heap[b]? = some (.cells cur T (0, 0)) ∧ n ≤ cap ∧ cap ≤ maxLen ∧ cur.size = cap * z ∧ M b = n * z ∧ X = fun k => k == b

/-- what a call leaves that was given a row -/
structure AfterX (C : Cfg) (X : Nat → Bool) (w w' : World) (M M' : Nat → Nat) : Prop where
  os : w'.os = w.os
  tape : w'.tape = w.tape
  output : OutOk C w' w
  size : w.heap.size ≤ w'.heap.size
  block : ∀ b, b < w.heap.size → X b = false → w'.heap[b]? = w.heap[b]?
  marks : ∀ b, b < w.heap.size → X b = false → M' b = M b
  kept : ∀ b, b < w.heap.size → Kept w w' M M' b

def FreshX (w : World) (M : Nat → Nat) (X : Nat → Bool) (base z : Nat) (v : Value) : Prop :=
  (∃ a n, v = .slice a n n) ∨ ∃ b n cap cur T, v = .slice (some ⟨b, 0, none⟩) n cap ∧ w.heap[b]? = some (.cells cur T (0, 0)) ∧ n ≤ cap ∧ cap ≤ maxLen ∧ cur.size = cap * z ∧ M b = n * z ∧ (base ≤ b ∨ X b = true)

/-- what a call does that is given a row, and gives it back -/
def OwnAt (C : Cfg) (f : FuncId) (z : Nat) (F : List AVal → Sig → Option (List Ent × Sig)) : Prop :=
  ∀ es rest rs sg', F (.dat (.sl es) :: rest) [] = some (rs, sg') → ∀ (w : World) (M : Nat → Nat) (v0 : Value) (vr : List Value) (X : Nat → Bool), rest.length = vr.length → Rep w M (.sl es) v0 → Given w M z v0 X →
    (∀ (i : Nat) x v, rest[i]? = some x → vr[i]? = some v → RepB w M [] x v) → GlobOk C w M → (∀ i o, C.low i = some o → X i = false) →
    Calls C.P f (v0 :: vr).toArray w fun e w' => ∃ v M', e = .returned v ∧ AfterX C X w w' M M' ∧ ∀ fs t, rs = [(.dat (.sl fs), .id t z)] → Rep w' M' (.sl fs) v ∧ FreshX w' M' X w.heap.size z v

structure CallOK (C : Cfg) (call : CallFn) : Prop where
  plain : ∀ f, C.ownArg f = none → ∀ args sg rs sg', call f args sg = some (rs, sg') → ∀ (w : World) (M : Nat → Nat) (sm : List Nat) (vs : Array Value), args.length = vs.size →
    (∀ (i : Nat) x v, args[i]? = some x → vs[i]? = some v → RepB w M sm x v) → SigOk C w M sm sg → GlobOk C w M →
    Calls C.P f vs w fun e w' => ∃ v M' sm', e = .returned v ∧ After C w w' M M' sm sm' ∧ SigOk C w' M' sm' sg' ∧ RepRes w' M' sm' w.heap.size rs v
  own : ∀ f z, C.ownArg f = some z → OwnAt C f z (call f)

/-- what is true of every program here -/
structure CfgOk (C : Cfg) : Prop where
  num : ∀ (g : Nat) (fn : Func), C.P.funcs[g]? = some fn → (fn.name == "runtime.NumGoroutine") = false
  mixed : C.P.follows .mixedOrders = true
  own : ∀ f z, C.ownArg f = some z → C.ownRes f = some (0, z) ∧ C.prim f = none
  grow : ∀ g z, C.nilGrow g = some z → ∀ (n : Nat) (w : World), n * (z.2 + 1) ≤ roomMax → ∃ fn, C.P.funcs[g]? = some fn ∧ fn.body ≠ none ∧
    Calls C.P g #[.slice none 0 0, .int .i64 n] w fun e w' => (e = .returned (.slice none 0 0) ∧ w' = w) ∨
      ∃ cap cur T, e = .returned (.slice (some ⟨w.heap.size, 0, none⟩) 0 cap) ∧ w' = w.drew.alloc (.cells cur T) ∧ cap ≤ maxLen ∧ cur.size = cap * z.1

section
variable {C : Cfg} {w0 : World} {M0 : Nat → Nat} {sm0 : List Nat} {X0 : Nat → Bool} {g : Gh} {s : St} {a : Act} {w : World}

theorem Inv.nodup (h : Inv C w0 M0 sm0 X0 g s a w) : g.sm.Nodup := by
  show List.Pairwise (· ≠ ·) g.sm
  rw [List.pairwise_iff_getElem]
  intro i j hi hj hij hEq
  have hi' : g.sm[i]? = some g.sm[i] := List.getElem?_eq_getElem hi
  have hj' : g.sm[j]? = some g.sm[j] := List.getElem?_eq_getElem hj
  have e1 := (h.sg i _ _ hi' (List.getElem?_eq_getElem (by rw [h.sglen]; exact hi))).1
  have e2 := (h.sg j _ _ hj' (List.getElem?_eq_getElem (by rw [h.sglen]; exact hj))).1
  rw [hEq, e2] at e1
  injection e1 with e1
  omega

theorem Inv.bufsOk (h : Inv C w0 M0 sm0 X0 g s a w) : BufsOk C w g.sm := by
  intro i b k hi hk
  obtain ⟨bx, _, _, hB, _⟩ := h.sgOf hi
  have hk' := hB k hk
  refine ⟨fun hm => ?_, fun j c hj hc => ?_⟩
  · obtain ⟨j, hj⟩ := List.getElem?_of_mem hm
    obtain ⟨_, _, hR, _, _⟩ := h.sgOf hj
    rw [hk'] at hR
    cases hR
  · obtain ⟨_, _, _, hC, _⟩ := h.sgOf hj
    have := hC k hc
    rw [hk'] at this
    injection this

theorem Inv.sigOk (h : Inv C w0 M0 sm0 X0 g s a w) : SigOk C w g.M g.sm s.sg :=
  ⟨h.sglen, h.nodup, fun i b bx hi hb => by
    obtain ⟨_, _, h2⟩ := h.sg i b bx hi hb
    cases bx with
    | cells l => exact h2
    | bld s => exact h2, h.bufsOk⟩

/-- what may change of the old blocks, in whoever's name -/
theorem Inv.touched (h : Inv C w0 M0 sm0 X0 g s a w) {b : Nat} (hb : Touch C w g.sm b) (hlt : b < w0.heap.size) : Touch C w0 sm0 b := by
  rcases hb with hm | ⟨c, hc, hk⟩
  · obtain ⟨r0, h1, h2⟩ := h.smp
    rw [h1] at hm
    rcases List.mem_append.1 hm with hm | hm
    · exact .inl hm
    · have := h2 b hm; omega
  · obtain ⟨i, hi⟩ := List.getElem?_of_mem hc
    obtain ⟨h1, h2⟩ := h.bufs i c b hi hk hlt
    exact .inr ⟨c, List.mem_of_getElem? h1, h2⟩

theorem Inv.touchRole (h : Inv C w0 M0 sm0 X0 g s a w) {b : Nat} (hb : Touch C w g.sm b) : g.M b = 0 ∧ b < w.heap.size ∧ ∃ i, g.R b = .sig i ∨ g.R b = .buf i := by
  rcases hb with hm | ⟨c, hc, hk⟩
  · obtain ⟨i, hi⟩ := List.getElem?_of_mem hm
    obtain ⟨bx, _, h1, _, h3⟩ := h.sgOf hi
    exact ⟨h3.M0, h3.lt, i, .inl h1⟩
  · obtain ⟨i, hi⟩ := List.getElem?_of_mem hc
    obtain ⟨bx, _, _, h2, h3⟩ := h.sgOf hi
    exact ⟨(h3.bufM hk).1, h3.bufLt hk, i, .inr (h2 b hk)⟩

theorem Inv.globOk (h : Inv C w0 M0 sm0 X0 g s a w) : GlobOk C w g.M := by
  refine ⟨fun i cells hc => ?_, fun i o ho => ?_⟩
  · have := h.glob i cells hc
    cases this with
    | imm vs h1 h2 h3 => exact .imm vs h1 h2 h3
  · obtain ⟨h1, h2⟩ := h.low.1 i o ho
    have hlt : i < w0.heap.size := (Array.getElem?_eq_some_iff.1 h1).1
    have hx := h.low.2.2.1 i o ho
    have hm := (h.fm i hlt).1 hx
    have hns : ¬ Touch C w0 sm0 i := fun ht => by have := h.low.2.1 i ht; omega
    exact ⟨by rw [h.frame i hlt hns hx]; exact h1, by omega⟩

theorem sigOk_nil (C : Cfg) (w : World) (M : Nat → Nat) : SigOk C w M [] [] := ⟨rfl, List.nodup_nil, fun i b bx h => by simp at h, fun i b k h => by simp at h⟩

/-- behind a call that saw nothing of what others see -/
theorem Inv.afterPure (h : Inv C w0 M0 sm0 X0 g s a w) {w' : World} {M' : Nat → Nat} {sm' : List Nat} (hA : After C w w' g.M M' [] sm') (t0 : Nat) (bx : Option Nat) (hbx : ∀ b, bx = some b → w.heap.size ≤ b) :
    let g' : Gh := { g with M := M', R := fun b => if bx = some b then .own t0 else g.R b }
    Inv C w0 M0 sm0 X0 g' s a w' := by
  intro g'
  have hR : ∀ b, b < w.heap.size → g'.R b = g.R b := fun b hb => if_neg fun e => by have := hbx b e; omega
  have hbl : ∀ b, b < w.heap.size → w'.heap[b]? = w.heap[b]? := fun b hb => hA.block b hb touch_nil
  refine h.step (g' := g') ⟨keeps_of fun b hb _ => ⟨hbl b hb, Nat.le_of_eq (hA.marks b hb).symm⟩, fun _ _ h => h, fun _ _ h => h, fun t size hr => ⟨rfl, ?_⟩⟩ hA.os hA.tape hA.output hA.size (fun b hb _ => hbl b hb)
    (fun b hb _ => by
      have := h.hsize
      exact ⟨hbl b (by omega), hA.marks b (by omega)⟩) (fun b hb _ => hA.marks b hb) (fun b hb _ => hR b hb) rfl rfl rfl
  rcases hr with hr | ⟨b, n, cap, cur, T, h1, h2, h3, h4, h5, h6, h7, h8⟩
  · exact .inl hr
  · have hlt := lt_of_heap h2
    exact .inr ⟨b, n, cap, cur, T, h1, by rw [hbl b hlt]; exact h2, h3, h4, h5, (hA.marks b hlt).trans h6, (hR b hlt).trans h7, h8⟩

/-- behind a call that saw what others see -/
theorem Inv.afterSig (h : Inv C w0 M0 sm0 X0 g s a w) {w' : World} {M' : Nat → Nat} {sm' : List Nat} {sg' : Sig} (hA : After C w w' g.M M' g.sm sm') (hS : SigOk C w' M' sm' sg') :
    let g' : Gh := { g with M := M', R := fun b => if w.heap.size ≤ b then rolesOf C w' sm' g.R b else g.R b, sm := sm' }
    Inv C w0 M0 sm0 X0 g' { s with sg := sg' } a w' := by
  intro g'
  have hR : ∀ b, b < w.heap.size → g'.R b = g.R b := fun b hb => if_neg fun e => by omega
  have hR' : ∀ b, w.heap.size ≤ b → g'.R b = rolesOf C w' sm' g.R b := fun b hb => if_pos hb
  have hbl : ∀ b, b < w.heap.size → ¬ Touch C w g.sm b → w'.heap[b]? = w.heap[b]? := fun b hb hn => hA.block b hb hn
  obtain ⟨r, hr1, hr2⟩ := hA.smp
  have hsm : ∀ (i : Nat) b, g.sm[i]? = some b → sm'[i]? = some b := fun i b hi => by
    rw [hr1, List.getElem?_append_left (List.getElem?_eq_some_iff.1 hi).1]; exact hi
  have hx : Ext w w' g g' w0.heap.size := by
    refine ⟨keeps_of fun b hb hm => ⟨hbl b hb fun hmem => by have := (h.touchRole hmem).1; omega, Nat.le_of_eq (hA.marks b hb).symm⟩, fun _ _ h => h, hsm, fun t size hr => ⟨rfl, ?_⟩⟩
    rcases hr with hr | ⟨b, n, cap, cur, T, h1, h2, h3, h4, h5, h6, h7, h8⟩
    · exact .inl hr
    · have hlt := lt_of_heap h2
      have hns : ¬ Touch C w g.sm b := fun hmem => by
        obtain ⟨_, _, i, hi | hi⟩ := h.touchRole hmem <;> (rw [h7] at hi; cases hi)
      exact .inr ⟨b, n, cap, cur, T, h1, by rw [hbl b hlt hns]; exact h2, h3, h4, h5, (hA.marks b hlt).trans h6, (hR b hlt).trans h7, h8⟩
  refine ⟨hA.os.trans h.os, hA.tape.trans h.tape, hA.output.trans h.output, Nat.le_trans h.hsize hA.size, ?_, ?_, ?_, h.defers, h.tsize, fun t e v he hv => (h.tm t e v he hv).mono hx, h.lm, ?_, hS.1, ?_, ?_, fun i cells hc => (h.glob i cells hc).mono hx.keeps hsm, h.low⟩
  · intro b hb hns hx0
    have := h.hsize
    rw [hbl b (by omega) fun hmem => hns (h.touched hmem hb)]
    exact h.frame b hb hns hx0
  · intro b hb
    have := h.hsize
    exact ⟨fun hx0 => (hA.marks b (by omega)).trans ((h.fm b hb).1 hx0), (h.fm b hb).2.mono hx.keeps⟩
  · obtain ⟨r0, h1, h2⟩ := h.smp
    refine ⟨r0 ++ r, by show sm' = _; rw [hr1, h1, List.append_assoc], fun b hm => ?_⟩
    rcases List.mem_append.1 hm with hm | hm
    · exact h2 b hm
    · exact Nat.le_trans h.hsize (hr2 b hm)
  · intro t b cells ht hc
    obtain ⟨h1, h2, h3⟩ := h.lo t b cells ht hc
    have hlt : b < w.heap.size := by obtain ⟨_, _, _, hb, _⟩ := h3; exact lt_of_heap hb
    have hns : ¬ Touch C w g.sm b := fun hmem => by
      obtain ⟨_, _, i, hi | hi⟩ := h.touchRole hmem <;> (rw [h2] at hi; cases hi)
    exact ⟨h1, (hR b hlt).trans h2, h3.mono hx (hbl b hlt hns) (hA.marks b hlt)⟩
  · intro i b bx hi hbx
    replace hi : sm'[i]? = some b := hi
    have hold : b < w.heap.size → g.sm[i]? = some b := fun hlt0 => by
      have hlt : i < g.sm.length := by
        rcases Nat.lt_or_ge i g.sm.length with h | h
        · exact h
        · rw [hr1, List.getElem?_append_right h] at hi
          have := hr2 b (List.mem_of_getElem? hi)
          omega
      rw [hr1, List.getElem?_append_left hlt] at hi
      exact hi
    refine ⟨?_, fun k hk => ?_, ?_⟩
    · by_cases hb : w.heap.size ≤ b
      · rw [hR' b hb]
        exact rolesOf_sig hS.2.1 hi
      · rw [hR b (by omega)]
        obtain ⟨_, _, h3, _⟩ := h.sgOf (hold (by omega))
        exact h3
    · by_cases hkb : w.heap.size ≤ k
      · rw [hR' k hkb]
        exact rolesOf_buf hS.2.2.2 hi hk
      · rw [hR k (by omega)]
        obtain ⟨h3, h4⟩ := hA.bufs i b k hi hk (by omega)
        obtain ⟨_, _, _, h5, _⟩ := h.sgOf h3
        exact h5 k h4
    · have := hS.2.2.1 i b bx hi hbx
      cases bx with
      | cells l => exact this
      | bld s => exact this
  · intro i b k hi hk hlt0
    have := h.hsize
    obtain ⟨h3, h4⟩ := hA.bufs i b k hi hk (by omega)
    exact h.bufs i b k h3 h4 hlt0

theorem clearE_clearE (t : Nat) (e : Ent) : clearE t (clearE t e) = clearE t e := by
  have hc : ∀ o : Own, cond ((cond (o.isId t) Own.none o).isId t) Own.none (cond (o.isId t) Own.none o) = cond (o.isId t) Own.none o := by
    intro o
    cases h : o.isId t with
    | true => rfl
    | false => simp [h]
  obtain ⟨x, o⟩ := e
  unfold clearE
  simp only
  rw [hc]
  cases x with
  | agg cs => simp only [List.map_map]; congr 2; apply List.map_congr_left; intro c _; simp only [Function.comp]; rw [hc]
  | tup cs => simp only [List.map_map]; congr 2; apply List.map_congr_left; intro c _; simp only [Function.comp]; rw [hc]
  | _ => rfl

theorem clearL_clearL (t : Nat) : ∀ l : List Ent, clearL t (clearL t l) = clearL t l
  | [] => rfl
  | e :: l => by simp only [clearL, clearE_clearE, clearL_clearL t l]

theorem clearB_clearB (t : Nat) : ∀ l : List (Option (List Ent)), clearB t (clearB t l) = clearB t l
  | [] => rfl
  | none :: l => by simp only [clearB, clearB_clearB t l]
  | some c :: l => by simp only [clearB, clearL_clearL, clearB_clearB t l]

theorem clear_clear (s : St) (t : Nat) : (s.clear t).clear t = s.clear t := by
  simp only [St.clear, clearL_clearL, clearB_clearB]

/-- behind a call that was given a row -/
theorem Inv.afterOwn (h : Inv C w0 M0 sm0 X0 g s a w) {w' : World} {M' : Nat → Nat} {X : Nat → Bool} {t z : Nat} {v : Value} {fs : List (List Dat)} (hX : ∀ b, X b = true → g.R b = .own t ∧ (w0.heap.size ≤ b ∨ g.gv b = true)) (hA : AfterX C X w w' g.M M')
    (hr : Rep w' M' (.sl fs) v) (hf : FreshX w' M' X w.heap.size z v) (hns : strictO t = false) (dst : Option Nat) :
    ∃ g', Inv C w0 M0 sm0 X0 g' (Dl.apply (.clr t (.dat (.sl fs), .id t z)) s dst) (a.put dst v) w' := by
  have h1 := h.clear t undef
  let g1 := g.setOg t undef
  let g2 : Gh := { g1 with M := M', R := fun b => if w.heap.size ≤ b then .own t else g.R b }
  have hno : ∀ size, ¬ RowOk w g1 w0.heap.size t size undef := by
    rintro size (⟨a, n, e, _⟩ | ⟨b, n, cap, cur, T, e, _⟩) <;> cases e
  have hgX : ∀ b, X b = true → b < w.heap.size → ∀ k, g.R b = .own k → k = t := fun b hb _ k hk => by
    rw [(hX b hb).1] at hk
    injection hk with hk
    exact hk.symm
  have hR : ∀ b, b < w.heap.size → g2.R b = g.R b := fun b hb => if_neg (by omega)
  have hx : Ext w w' g1 g2 w0.heap.size := by
    refine ⟨fun ad u hc hm => hA.kept ad.block (lt_of_cell hc) ad u rfl hc hm, fun _ _ h => h, fun _ _ h => h, fun k size hrow => ⟨rfl, ?_⟩⟩
    by_cases hk : k = t
    · subst hk
      have : g1.og k = undef := if_pos rfl
      rw [this] at hrow
      exact absurd hrow (hno size)
    · rcases hrow with hrow | ⟨b, n, cap, cur, T, e1, e2, e3, e4, e5, e6, e7, e8⟩
      · exact .inl hrow
      · have hlt := lt_of_heap e2
        have hxb : X b = false := by
          cases hxx : X b with
          | false => rfl
          | true => exact absurd (hgX b hxx hlt k e7) hk
        exact .inr ⟨b, n, cap, cur, T, e1, by rw [hA.block b hlt hxb]; exact e2, e3, e4, e5, (hA.marks b hlt hxb).trans e6, (hR b hlt).trans e7, e8⟩
  have hnX : ∀ b, (∀ k, g.R b ≠ .own k) → X b = false := fun b hb => by
    cases hxx : X b with
    | false => rfl
    | true => exact absurd (hX b hxx).1 (hb t)
  have h2 : Inv C w0 M0 sm0 X0 g2 (s.clear t) a w' := by
    refine h1.step hx hA.os hA.tape hA.output hA.size (fun b hb hn => hA.block b hb (hnX b hn)) (fun b hb hx0 => ?_) (fun b hb hn => hA.marks b hb (hnX b hn)) (fun b hb _ => hR b hb) rfl rfl rfl
    have hlt : b < w.heap.size := by have := h.hsize; omega
    have hxb : X b = false := by
      cases hxx : X b with
      | false => rfl
      | true =>
        rcases (hX b hxx).2 with h3 | h3
        · omega
        · rw [h.low.2.2.2, hx0] at h3; cases h3
    exact ⟨hA.block b hlt hxb, hA.marks b hlt hxb⟩
  have h3 := h2.clear t v
  rw [clear_clear] at h3
  refine ⟨_, h3.put (e := (.dat (.sl fs), .id t z)) ⟨.dat hr, (if_pos rfl).symm, ?_⟩ dst⟩
  rcases hf with ⟨a', n', hf⟩ | ⟨b, n, cap, cur, T, e1, e2, e3, e4, e5, e6, e7⟩
  · exact .inl ⟨a', n', hf, fun h => by rw [hns] at h; cases h⟩
  · refine .inr ⟨b, n, cap, cur, T, e1, e2, e3, e4, e5, e6, ?_, ?_⟩
    · show (if w.heap.size ≤ b then Role.own t else g.R b) = _
      by_cases hb : w.heap.size ≤ b
      · rw [if_pos hb]
      · rw [if_neg hb]
        rcases e7 with e7 | e7
        · exact absurd e7 hb
        · exact (hX b e7).1
    · rcases e7 with e7 | e7
      · exact .inl (Nat.le_trans h.hsize e7)
      · exact (hX b e7).2

end
end Go.Aev

end
section
/- A call by the evaluator is a call by the machine. -/
namespace Go.Aev

section
variable {C : Cfg} {w0 : World} {M0 : Nat → Nat} {sm0 : List Nat} {X0 : Nat → Bool} {g : Gh} {s : St} {a : Act} {w : World}

theorem plainL_get : ∀ {l : List AVal} {i : Nat} {c : AVal}, plainL l = true → l[i]? = some c → plainA c = true
  | [], i, c, _, h => by simp at h
  | x :: l, 0, c, hp, h => by
    simp only [plainL, Bool.and_eq_true] at hp
    simp at h; subst h; exact hp.1
  | x :: l, i + 1, c, hp, h => by
    simp only [plainL, Bool.and_eq_true] at hp
    exact plainL_get hp.2 (by simpa using h)

theorem handsAll_get : ∀ {l : List AVal} {i : Nat} {c : AVal}, handsAll l = true → l[i]? = some c → handsOn c = true
  | [], i, c, _, h => by simp at h
  | x :: l, 0, c, hp, h => by
    simp only [handsAll, Bool.and_eq_true] at hp
    simp at h; subst h; exact hp.1
  | x :: l, i + 1, c, hp, h => by
    simp only [handsAll, Bool.and_eq_true] at hp
    exact handsAll_get hp.2 (by simpa using h)

theorem plainB {M : Nat → Nat} {sm sm' : List Nat} {x : AVal} {u : Value} (hx : RepB w M sm x u) : plainA x = true → RepB w M sm' x u := by
  induction hx with
  | dat h => intro _; exact .dat h
  | agg h1 h2 => intro _; exact .agg h1 h2
  | imm vs h1 h2 h3 => intro _; exact .imm vs h1 h2 h3
  | ref h => intro hp; cases hp
  | clo h1 h2 h3 h4 ih ih' =>
    intro hp
    simp only [plainA, Bool.and_eq_true] at hp
    exact .clo h1 h2 (fun i c v hc hv => ih i c v hc hv (plainL_get hp.1 hc)) (fun i c v hc hv => ih' i c v hc hv (plainL_get hp.2 hc))

theorem plain_strip (x : AVal) : plainA (stripA x) = plainA x := by cases x <;> rfl

theorem decVal_cases {β : Type} {P : Program} {t : TypeId} {e : Ent} {F : Ent → Option β} {r : β} (h : decVal P t e F = some r) :
    (∃ cs, e.1 = .agg cs ∧ F (.agg (cs.map fun c => (c.1, .none)), .none) = some r) ∨ (∃ d, e.1 = .dat d ∧ F (.dat d, .none) = some r) ∨ (shapesOf P 12 t = some [.any] ∧ handsOn e.1 = true ∧ F (e.1, .none) = some r) := by
  unfold decVal at h
  split at h
  · exact .inr (.inr ⟨by assumption, cond_none rfl h⟩)
  · rename_i ps hne hps
    cases ha : isAggT P t with
    | true =>
      rw [ha, cond_true] at h
      obtain ⟨cs, hcs, h⟩ := asAgg_some h
      obtain ⟨h1, h2⟩ := cond_none rfl h
      obtain ⟨ds, h3, h4, h5⟩ := cellsAt_some h2
      simp only [beq_iff_eq] at h1
      have : cs.map (·.1) = ds := by
        apply List.ext_getElem?
        intro i
        rcases Nat.lt_or_ge i ps.length with hlt | hge
        · simpa using h5 i hlt
        · rw [List.getElem?_eq_none (by simp; omega), List.getElem?_eq_none (by omega)]
      rw [← this, List.map_map] at h3
      exact .inl ⟨cs, hcs, h3⟩
    | false =>
      rw [ha, cond_false] at h
      split at h
      · obtain ⟨d, hd, h⟩ := asDat_some h
        exact .inr (.inl ⟨d, hd, asShp_some h⟩)
      · cases h
  · cases h

theorem decVals_plain {β : Type} {P : Program} {M : Nat → Nat} {sm sm' : List Nat} : ∀ {ts : List TypeId} {es : List Ent} {F : List Ent → Option β} {r : β} {vs : List Value}, decVals P ts es F = some r → es.length = vs.length →
    ts.all (plainT P) = true → (∀ (i : Nat) (e : Ent) v, es[i]? = some e → vs[i]? = some v → RepB w M sm e.1 v) →
    ∃ es', F es' = some r ∧ es'.length = vs.length ∧ ∀ (i : Nat) (e : Ent) v, es'[i]? = some e → vs[i]? = some v → RepB w M sm' e.1 v ∧ e.2 = .none
  | [], [], F, r, vs, h, hl, _, hr => ⟨[], h, hl, fun i e v he => by simp at he⟩
  | [], _ :: _, F, r, vs, h, hl, _, hr => by cases h
  | t :: ts, [], F, r, vs, h, hl, _, hr => by cases h
  | t :: ts, e :: es, F, r, [], h, hl, _, hr => by simp at hl
  | t :: ts, e :: es, F, r, v :: vs, h, hl, hp, hr => by
    simp only [decVals] at h
    simp only [List.all_cons, Bool.and_eq_true] at hp
    have hB := hr 0 e v rfl rfl
    have key : ∃ e', decVals P ts es (fun r => F (e' :: r)) = some r ∧ RepB w M sm' e'.1 v ∧ e'.2 = .none := by
      rcases decVal_cases h with ⟨cs, hcs, h⟩ | ⟨d, hd, h⟩ | ⟨hs, h⟩
      · rw [hcs] at hB
        cases hB with
        | agg hl' hr' =>
          refine ⟨_, h, .agg (by simpa using hl') fun i c v hc hv => ?_, rfl⟩
          simp only [List.getElem?_map, Option.map_eq_some_iff] at hc
          obtain ⟨c', hc', rfl⟩ := hc
          exact ⟨(hr' i c' v hc' hv).1, rfl⟩
      · rw [hd] at hB
        cases hB with
        | dat hB => exact ⟨_, h, .dat hB, rfl⟩
      · simp [plainT, hs] at hp
    obtain ⟨e', h1, h2, h3⟩ := key
    obtain ⟨es', h4, h5, h6⟩ := decVals_plain (sm' := sm') (vs := vs) h1 (by simpa using hl) hp.2 (fun i e v he hv => hr (i + 1) e v (by simpa using he) (by simpa using hv))
    refine ⟨e' :: es', h4, by simp [h5], fun i e v' he hv => ?_⟩
    cases i with
    | zero =>
      simp at he hv
      subst he hv
      exact ⟨h2, h3⟩
    | succ i => exact h6 i e v' (by simpa using he) (by simpa using hv)

theorem markAt_get {o : Own} : ∀ {i : Nat} {es : List Ent} {j : Nat}, (markAt i o es)[j]? = if i = j then (es[j]?).map (fun e => (e.1, o)) else es[j]?
  | i, [], j => by simp [markAt]
  | 0, e :: es, 0 => by simp [markAt]
  | 0, e :: es, j + 1 => by simp [markAt]
  | i + 1, e :: es, 0 => by simp [markAt]
  | i + 1, e :: es, j + 1 => by
    simp only [markAt, List.getElem?_cons_succ, markAt_get]
    by_cases h : i = j
    · simp [h]
    · simp [h]
theorem markAt_length {o : Own} : ∀ {i : Nat} {es : List Ent}, (markAt i o es).length = es.length
  | i, [] => by simp [markAt]
  | 0, e :: es => by simp [markAt]
  | i + 1, e :: es => by simp [markAt, markAt_length]

/-- several results as one value -/
theorem joinE_rep {base : Nat} {rs : List Ent} {vs : List Value} {v : Value} (hv : match vs with | [u] => v = u | _ => v = .tuple vs.toArray) (hl : rs.length = vs.length)
    (hr : ∀ (i : Nat) (e : Ent) u, rs[i]? = some e → vs[i]? = some u → RepB w g.M g.sm e.1 u ∧ OwnOk w g base e.2 u) : RepE w g base (joinE rs) v := by
  match vs, hv, rs, hl, hr with
  | [u], hv, [r], _, hr =>
    subst hv
    obtain ⟨h1, h2⟩ := hr 0 r v rfl rfl
    exact ⟨.b h1, h2⟩
  | [], hv, [], _, hr => subst hv; exact ⟨.tup rfl (fun i e u he => by simp at he), trivial⟩
  | u :: u' :: us, hv, r :: r' :: rs, hl, hr =>
    subst hv
    exact ⟨.tup (by simpa using hl) (fun i e u he hu => hr i e u he (by simpa using hu)), trivial⟩
  | [], _, _ :: _, hl, _ => simp at hl
  | [_], _, [], hl, _ => simp at hl
  | [_], _, _ :: _ :: _, hl, _ => simp at hl
  | _ :: _ :: _, _, [], hl, _ => simp at hl
  | _ :: _ :: _, _, [_], hl, _ => simp at hl

theorem call_wp {call : CallFn} {ns : Bool} {fi : FuncId} {args : List AVal} {vs : Array Value} {d : Dl} {o : Oper} {Q : Exit → Act → World → Prop} (hcall : CallOK C call) (hI : Inv C w0 M0 sm0 X0 g s a w)
    (h : callA C call ns s.sg o.dst fi args some = some d) (hl : args.length = vs.size) (hr : ∀ (i : Nat) x v, args[i]? = some x → vs[i]? = some v → RepA w g w0.heap.size x v)
    (hrun : ∀ fn, C.P.funcs[fi]? = some fn → fn.body.isNone = false → (execOp a.eval o).run C.P w = .ok (.enter fi vs) w) :
    o.wp C.P a w (fun a' w' => ∃ g', Inv C w0 M0 sm0 X0 g' (d.apply s o.dst) a' w') Q := by
  unfold callA at h
  split at h
  · rename_i fn dt hfn hdst
    cases hh : (!handsAll args || fn.body.isNone || (C.ownArg fi).isSome) with
    | true => rw [hh] at h; cases h
    | false =>
      rw [hh, cond_false] at h
      simp only [Bool.or_eq_false_iff, Bool.not_eq_false'] at hh
      obtain ⟨⟨hands, hbody⟩, hown⟩ := hh
      have hown : C.ownArg fi = none := by simpa using hown
      have hexec := hrun fn hfn hbody
      have hsl : (args.map stripA).length = vs.size := by simpa using hl
      have hstrip : ∀ (i : Nat) x v, (args.map stripA)[i]? = some x → vs[i]? = some v → RepB w g.M g.sm x v := by
        intro i x v hx hv
        rw [List.getElem?_map, Option.map_eq_some_iff] at hx
        obtain ⟨y, hy, rfl⟩ := hx
        exact strip_rep (hr i y v hy hv) (handsAll_get hands hy)
      unfold Oper.wp
      rw [hexec, Oper.upon_enter]
      cases hpl : (plainL args && fn.resultTypes.toList.all (plainT C.P)) with
      | true =>
        rw [hpl, cond_true] at h
        simp only [Bool.and_eq_true] at hpl
        simp only [Option.bind_eq_some_iff] at h
        obtain ⟨⟨rs, sg'⟩, hc, h⟩ := h
        refine (hcall.plain fi hown _ [] rs sg' hc w g.M [] vs hsl (fun i x v hx hv => ?_) (sigOk_nil C w g.M) hI.globOk).mono ?_
        · have := hstrip i x v hx hv
          rw [List.getElem?_map, Option.map_eq_some_iff] at hx
          obtain ⟨y, hy, rfl⟩ := hx
          exact plainB this (by rw [plain_strip]; exact plainL_get hpl.1 hy)
        rintro e w' ⟨v, M', sm', rfl, hA, hS, us, huv, hul, hres, huniq⟩
        show ∃ g', Inv C w0 M0 sm0 X0 g' (d.apply s o.dst) (a.put o.dst v) w'
        obtain ⟨es, hF, hel, hes⟩ := decVals_plain (sm' := g.sm) h hul hpl.2 (fun i e u he hu => (hres i e u he hu).1)
        split at hF
        · rename_i i n hown
          obtain ⟨hm, hF⟩ := cond_none rfl hF
          cases hF
          unfold hasMark at hm
          split at hm
          · rename_i x t1 m hrsi
            simp only [beq_iff_eq] at hm
            subst hm
            obtain ⟨u, hu⟩ : ∃ u, us[i]? = some u := by
              have h9 : i < rs.length := (List.getElem?_eq_some_iff.1 hrsi).1
              have h10 : i < us.length := by rw [← hul]; exact h9
              exact ⟨us[i], List.getElem?_eq_getElem h10⟩
            have hfresh : FreshRow w' M' sm' w.heap.size n u := (hres i _ u hrsi hu).2
            have hI1 := hI.clear (8 * dt) u
            let bx : Option Nat := match u with | .slice (some ad) k cap => (if k = cap then none else some ad.block) | _ => none
            have hbx : ∀ b, bx = some b → w.heap.size ≤ b := by
              intro b hb
              rcases hfresh with ⟨a', k, rfl⟩ | ⟨b', k, cap, cur, T, rfl, _, _, _, _, _, h7, _⟩
              · cases a' <;> simp [bx] at hb
              · simp only [bx] at hb
                split at hb
                · cases hb
                · cases hb; exact h7
            have hI2 := hI1.afterPure hA (8 * dt) bx hbx
            refine ⟨_, hI2.put (e := joinE (markAt i (.id (8 * dt) n) es)) (joinE_rep huv (by rw [markAt_length]; exact hel) fun j e q he hq => ?_) o.dst⟩
            rw [markAt_get] at he
            by_cases hij : i = j
            · subst hij
              rw [if_pos rfl, Option.map_eq_some_iff] at he
              obtain ⟨e0, he0, rfl⟩ := he
              obtain rfl : u = q := by rw [hu] at hq; exact Option.some.inj hq
              refine ⟨(hes i e0 u he0 hu).1, (if_pos rfl).symm, ?_⟩
              rcases hfresh with ⟨a', k, rfl⟩ | ⟨b', k, cap, cur, T, rfl, h2, h3, h4, h5, h6, h7, _⟩
              · exact .inl ⟨a', k, rfl, fun h => by rw [strict8] at h; cases h⟩
              · by_cases hkc : k = cap
                · subst hkc; exact .inl ⟨_, k, rfl, fun h => by rw [strict8] at h; cases h⟩
                · refine .inr ⟨b', k, cap, cur, T, rfl, h2, h3, h4, h5, h6, ?_, .inl (Nat.le_trans hI.hsize h7)⟩
                  show (if bx = some b' then Role.own (8 * dt) else _) = _
                  rw [if_pos (by simp [bx, hkc])]
            · rw [if_neg hij] at he
              obtain ⟨h1, h2⟩ := hes j e q he hq
              exact ⟨h1, by rw [h2]; trivial⟩
          · cases hm
        · cases hF
          have hI2 := hI.afterPure hA 0 none (fun b hb => by cases hb)
          refine ⟨_, hI2.put (joinE_rep huv hel fun j e q he hq => ?_) o.dst⟩
          obtain ⟨h1, h2⟩ := hes j e q he hq
          exact ⟨h1, by rw [h2]; trivial⟩
      | false =>
        rw [hpl, cond_false] at h
        cases hns : (ns || (C.ownRes fi).isSome) with
        | true => rw [hns] at h; cases h
        | false =>
          rw [hns, cond_false] at h
          simp only [Option.bind_eq_some_iff] at h
          obtain ⟨⟨rs, sg'⟩, hc, h⟩ := h
          refine (hcall.plain fi hown _ s.sg rs sg' hc w g.M g.sm vs hsl hstrip hI.sigOk hI.globOk).mono ?_
          rintro e w' ⟨v, M', sm', rfl, hA, hS, us, huv, hul, hres, huniq⟩
          show ∃ g', Inv C w0 M0 sm0 X0 g' (d.apply s o.dst) (a.put o.dst v) w'
          have hI2 := hI.afterSig hA hS
          obtain ⟨es, hF, hel, hes⟩ := decVals_rep (g := { g with M := M', R := fun b => if w.heap.size ≤ b then rolesOf C w' sm' g.R b else g.R b, sm := sm' }) h hul (fun i e u he hu => (hres i e u he hu).1)
          cases hF
          refine ⟨_, hI2.put (joinE_rep huv hel fun j e q he hq => ?_) o.dst⟩
          obtain ⟨h1, h2⟩ := hes j e q he hq
          exact ⟨h1, by rw [h2]; trivial⟩
  · cases h
end
end Go.Aev

end
section
/- What is handed on by an operation is what the operation does. -/
namespace Go.Aev

section
variable {β : Type} {r : β}

/-- a shape that is there is there for whatever is asked -/
theorem asShp_any {γ : Type} {p : Shp} {d : Dat} {F : Dat → Option β} (G : Dat → Option γ) (h : asShp p d F = some r) : asShp p d G = G d := by
  unfold asShp at h ⊢
  split at h
  · obtain ⟨n, rfl, _⟩ := asInt_some h; simp [asInt]
  · obtain ⟨n, rfl, _⟩ := asBool_some h; rfl
  · obtain ⟨n, rfl, _⟩ := asStr_some h; rfl
  · obtain ⟨n, rfl, _⟩ := asSl_some h; rfl
  · unfold asIfc; rw [(asIfc_some h).1]; rfl
  · rfl
theorem shpA_same {P : Program} {t : TypeId} {d : Dat} {F : Dat → Option β} (h : shpA P t d F = some r) : F d = some r ∧ ∀ (γ : Type) (G : Dat → Option γ), shpA P t d G = G d := by
  unfold shpA at h ⊢
  split at h
  · rename_i p hp
    have h1 := asShp_any F h
    exact ⟨h1.symm.trans h, fun γ G => asShp_any G h⟩
  · cases h
theorem cellAt_any {γ : Type} {e : List Dat} {j : Nat} {F : Dat → Option β} (h : cellAt e j F = some r) : ∃ d, (∀ G : Dat → Option γ, cellAt e j G = G d) ∧ F d = some r := by
  obtain ⟨d, hd, h⟩ := cellAt_some h
  exact ⟨d, fun G => by simp [cellAt, hd], h⟩
theorem cellsAt_any {γ : Type} {e : List Dat} : ∀ {ps : List Shp} {j : Nat} {β : Type} {F : List Dat → Option β} {r : β}, cellsAt ps e j F = some r →
    ∃ ds, (∀ G : List Dat → Option γ, cellsAt ps e j G = G ds) ∧ F ds = some r
  | [], j, β, F, r, h => ⟨[], fun G => rfl, h⟩
  | p :: ps, j, β, F, r, h => by
    simp only [cellsAt] at h
    obtain ⟨d, hd, h⟩ := cellAt_some h
    obtain ⟨ds, h1, h2⟩ := cellsAt_any (γ := γ) (asShp_some h)
    refine ⟨d :: ds, fun G => ?_, h2⟩
    simp only [cellsAt]
    have : cellAt e j (fun d => asShp p d fun d => cellsAt ps e (j + 1) fun ds => G (d :: ds)) = asShp p d fun d => cellsAt ps e (j + 1) fun ds => G (d :: ds) := by simp [cellAt, hd]
    rw [this, asShp_any (fun d => cellsAt ps e (j + 1) fun ds => G (d :: ds)) h, h1]
theorem asDat_any {γ : Type} {x : AVal} {F : Dat → Option β} (h : asDat x F = some r) : ∃ d, (∀ G : Dat → Option γ, asDat x G = G d) ∧ F d = some r := by
  obtain ⟨d, rfl, h⟩ := asDat_some h
  exact ⟨d, fun G => rfl, h⟩
theorem asAgg_any {γ : Type} {x : AVal} {F : List (Dat × Own) → Option β} (h : asAgg x F = some r) : ∃ d, (∀ G : List (Dat × Own) → Option γ, asAgg x G = G d) ∧ F d = some r := by
  obtain ⟨d, rfl, h⟩ := asAgg_some h
  exact ⟨d, fun G => rfl, h⟩
theorem decVal_any {γ : Type} {P : Program} {t : TypeId} {e : Ent} {F : Ent → Option β} (h : decVal P t e F = some r) : ∃ e', (∀ G : Ent → Option γ, decVal P t e G = G e') ∧ F e' = some r := by
  unfold decVal at h
  split at h
  · rename_i hs
    obtain ⟨h1, h2⟩ := cond_none rfl h
    exact ⟨_, fun G => by simp only [decVal, hs, h1, cond_true], h2⟩
  · rename_i ps hne hps
    cases ha : isAggT P t with
    | true =>
      rw [ha, cond_true] at h
      obtain ⟨cs, hcs, h⟩ := asAgg_some h
      obtain ⟨h1, h2⟩ := cond_none rfl h
      obtain ⟨ds, h3, h4⟩ := cellsAt_any (γ := γ) h2
      refine ⟨_, fun G => ?_, h4⟩
      have hcs' : e = (.agg cs, e.2) := by rw [← hcs]
      unfold decVal
      rw [hps]
      split
      · rename_i heq; exact absurd (Option.some.inj heq) hne
      · rename_i ps' _ heq
        cases heq
        rw [ha, cond_true, hcs]
        show cond (cs.length == ps.length) _ none = _
        rw [h1, cond_true, h3]
      · rename_i heq; cases heq
    | false =>
      rw [ha, cond_false] at h
      split at h
      · rename_i p hp
        obtain ⟨d, hd, h⟩ := asDat_some h
        refine ⟨(.dat d, .none), fun G => ?_, asShp_some h⟩
        unfold decVal
        rw [hps]
        split
        · rename_i heq; exact absurd (Option.some.inj heq) hne
        · rename_i ps' _ heq
          cases heq
          rw [ha, cond_false]
          show asDat e.1 _ = _
          rw [hd]
          exact asShp_any (fun d => G (AVal.dat d, Own.none)) h
        · rename_i heq; cases heq
      · cases h
  · cases h
theorem decVals_any {γ : Type} {P : Program} : ∀ {ts : List TypeId} {es : List Ent} {β : Type} {F : List Ent → Option β} {r : β}, decVals P ts es F = some r → ∃ es', (∀ G : List Ent → Option γ, decVals P ts es G = G es') ∧ F es' = some r
  | [], [], β, F, r, h => ⟨[], fun G => rfl, h⟩
  | [], _ :: _, β, F, r, h => by cases h
  | t :: ts, [], β, F, r, h => by cases h
  | t :: ts, e :: es, β, F, r, h => by
    simp only [decVals] at h
    obtain ⟨e', h1, h2⟩ := decVal_any (γ := γ) h
    obtain ⟨es', h3, h4⟩ := decVals_any (γ := γ) h2
    exact ⟨e' :: es', fun G => by simp only [decVals]; rw [h1, h3], h4⟩

theorem cond_any {b : Bool} {x : Option β} (h : cond b x none = some r) : b = true ∧ x = some r := cond_none rfl h

theorem elemAt_any {γ : Type} {es : List (List Dat)} {i : Int} {F : List Dat → Option β} (h : elemAt es i F = some r) : ∃ e, (∀ G : List Dat → Option γ, elemAt es i G = G e) ∧ F e = some r := by
  unfold elemAt at h
  obtain ⟨h1, h2⟩ := cond_any h
  split at h2
  · rename_i e he
    exact ⟨e, fun G => by simp [elemAt, h1, he], h2⟩
  · cases h2
theorem byteAt_any {γ : Type} {s : ByteArray} {i : Int} {F : UInt8 → Option β} (h : byteAt s i F = some r) : ∃ e, (∀ G : UInt8 → Option γ, byteAt s i G = G e) ∧ F e = some r := by
  unfold byteAt at h
  obtain ⟨h1, h2⟩ := cond_any h
  split at h2
  · rename_i e he
    exact ⟨e, fun G => by unfold byteAt; rw [h1, cond_true, he], h2⟩
  · cases h2
theorem boundA_any {γ : Type} {ev : Operand → Ent} {x : Option Operand} {d : Int} {F : Int → Option β} (h : boundA ev x d F = some r) : ∃ n, (∀ G : Int → Option γ, boundA ev x d G = G n) ∧ F n = some r := by
  unfold boundA at h
  split at h
  · exact ⟨d, fun G => rfl, h⟩
  · rename_i o
    obtain ⟨v, hv, h⟩ := asDat_some h
    split at h
    · rename_i k n
      exact ⟨n, fun G => by simp [boundA, hv, asDat], h⟩
    · cases h

theorem datBin_any {γ : Type} {op : BinOp} {x y : Dat} {F : Dat → Option β} (h : datBin op x y F = some r) : ∃ d, (∀ G : Dat → Option γ, datBin op x y G = G d) ∧ F d = some r := by
  unfold datBin at h
  split at h
  · rename_i k a k' b
    cases op
    case shl => obtain ⟨h1, h2⟩ := cond_any h; exact ⟨_, fun G => by simp only [datBin, h1, cond_true], h2⟩
    case shr => obtain ⟨h1, h2⟩ := cond_any h; exact ⟨_, fun G => by simp only [datBin, h1, cond_true], h2⟩
    case quo => obtain ⟨h1, h2⟩ := cond_any h; exact ⟨_, fun G => by simp only [datBin, h1, cond_true], h2⟩
    case rem => obtain ⟨h1, h2⟩ := cond_any h; exact ⟨_, fun G => by simp only [datBin, h1, cond_true], h2⟩
    all_goals
      obtain ⟨h1, h2⟩ := cond_any h
      split at h2
      · rename_i d hd
        exact ⟨d, fun G => by simp only [datBin, h1, cond_true, hd], h2⟩
      · cases h2
  · rename_i a b
    cases op
    case add => obtain ⟨h1, h2⟩ := cond_any h; exact ⟨_, fun G => by simp only [datBin, h1, cond_true], h2⟩
    all_goals
      simp only at h
      split at h
      · rename_i d hd
        exact ⟨d, fun G => by simp only [datBin, hd], h⟩
      · cases h
  · cases h

theorem binA_any {γ : Type} {P : Program} {op : BinOp} {t : TypeId} {x y : AVal} {F : Dat → Option β} (h : binA P op t x y F = some r) : ∃ d, (∀ G : Dat → Option γ, binA P op t x y G = G d) ∧ F d = some r := by
  unfold binA at h
  split at h
  · obtain ⟨h1, h2⟩ := cond_any h
    cases op <;> simp only [reduceCtorEq] at h2
    · exact ⟨_, fun G => by simp only [binA, h1, cond_true], h2⟩
    · exact ⟨_, fun G => by simp only [binA, h1, cond_true], h2⟩
  · rename_i a b hne
    obtain ⟨d, h1, h2⟩ := datBin_any (γ := γ) h
    refine ⟨d, fun G => ?_, h2⟩
    unfold binA
    split
    · rename_i e1 e2; cases e1; cases e2; exact absurd rfl (hne _ _ rfl)
    · rename_i e1 e2; cases e1; cases e2; exact h1 G
    · rename_i e1 e2; cases e1
    · rename_i h3 _; exact absurd rfl (h3 _ _ rfl)
  · cases op <;> simp only [reduceCtorEq] at h
    · obtain ⟨h1, h2⟩ := cond_any h
      split at h2
      · rename_i b hb
        exact ⟨_, fun G => by simp only [binA, h1, cond_true, hb], h2⟩
      · cases h2
    · obtain ⟨h1, h2⟩ := cond_any h
      split at h2
      · rename_i b hb
        exact ⟨_, fun G => by simp only [binA, h1, cond_true, hb], h2⟩
      · cases h2
  · cases h

theorem unA_any {γ : Type} {op : UnOp} {x : AVal} {F : Dat → Option β} (h : unA op x F = some r) : ∃ d, (∀ G : Dat → Option γ, unA op x G = G d) ∧ F d = some r := by
  unfold unA at h
  split at h
  · exact ⟨_, fun G => rfl, h⟩
  · exact ⟨_, fun G => rfl, h⟩
  · cases h

theorem convA_any {γ : Type} {P : Program} {src dst : TypeId} {x : AVal} {F : Dat → Option β} (h : convA P src dst x F = some r) : ∃ d, (∀ G : Dat → Option γ, convA P src dst x G = G d) ∧ F d = some r := by
  unfold convA at h
  split at h
  · rename_i h1 h2
    exact ⟨_, fun G => by simp only [convA, h1, h2], h⟩
  · rename_i h1 h2
    exact ⟨_, fun G => by simp only [convA, h1, h2], h⟩
  · rename_i h1 h2
    obtain ⟨h3, h4⟩ := cond_any h
    exact ⟨_, fun G => by simp only [convA, h1, h2, h3, cond_true], h4⟩
  · rename_i h1 h2
    obtain ⟨h3, h4⟩ := cond_any h
    split at h4
    · rename_i l hl
      exact ⟨_, fun G => by simp only [convA, h1, h2, h3, cond_true, hl], h4⟩
    · cases h4
  · cases h

theorem lenA_any {γ : Type} {P : Program} {ts : Array TypeId} {x : AVal} {F : Dat → Option β} (h : lenA P ts x F = some r) : ∃ d, (∀ G : Dat → Option γ, lenA P ts x G = G d) ∧ F d = some r := by
  unfold lenA at h
  split at h
  · rename_i h1; exact ⟨_, fun G => by simp only [lenA, h1], h⟩
  · rename_i h1; exact ⟨_, fun G => by simp only [lenA, h1], h⟩
  · rename_i h1; exact ⟨_, fun G => by unfold lenA; rw [h1], h⟩
  · cases h

theorem loadA_any {γ : Type} {C : Cfg} {ns : Bool} {lo : List (Option (List Ent))} {sg : Sig} {t : TypeId} {p : AVal} {F : Ent → Option β} (h : loadA C ns lo sg t p F = some r) :
    ∃ e, (∀ G : Ent → Option γ, loadA C ns lo sg t p G = G e) ∧ F e = some r := by
  unfold loadA at h
  split at h
  · rename_i size d0 hsz hu
    split at h
    · rename_i u off
      split at h
      · rename_i cells hcells
        cases ha : isAggT C.P t with
        | true =>
          rw [ha, cond_true] at h
          obtain ⟨h1, h2⟩ := cond_any h
          split at h2
          · rename_i ds hds
            exact ⟨_, fun G => by simp only [loadA, hsz, hu, hcells, ha, cond_true, h1, hds], h2⟩
          · cases h2
        | false =>
          rw [ha, cond_false] at h
          split at h
          · rename_i e he
            obtain ⟨h1, h2⟩ := cond_none rfl h
            exact ⟨_, fun G => by simp only [loadA, hsz, hu, hcells, ha, cond_false, he, h1, cond_true], h2⟩
          · cases h
      · cases h
    · rename_i cells
      split at h
      · rename_i ps hps
        cases ha : isAggT C.P t with
        | true =>
          rw [ha, cond_true] at h
          obtain ⟨h1, h2⟩ := cond_any h
          obtain ⟨ds, h3, h4⟩ := cellsAt_any (γ := γ) h2
          exact ⟨_, fun G => by simp only [loadA, hsz, hu, hps, ha, cond_true, h1]; rw [h3], h4⟩
        | false =>
          rw [ha, cond_false] at h
          split at h
          · rename_i p
            obtain ⟨x, hx, h⟩ := cellAt_some h
            refine ⟨_, fun G => ?_, asShp_some h⟩
            simp only [loadA, hsz, hu, hps, ha, cond_false, cellAt, hx]
            exact asShp_any _ h
          · cases h
      · cases h
    · rename_i i off
      cases ns with
      | true => cases h
      | false =>
        rw [cond_false] at h
        obtain ⟨l, hl, h⟩ := sgBox_some h
        cases ha : isAggT C.P t with
        | true =>
          rw [ha, cond_true] at h
          obtain ⟨h1, h2⟩ := cond_any h
          split at h2
          · rename_i ds hds
            exact ⟨_, fun G => by simp only [loadA, hsz, hu, cond_false, sgBox, hl, ha, cond_true, h1, hds], h2⟩
          · cases h2
        | false =>
          rw [ha, cond_false] at h
          obtain ⟨x, hx, h⟩ := cellA_some h
          obtain ⟨e, h1, h2⟩ := decVal_any (γ := γ) h
          exact ⟨e, fun G => by simp only [loadA, hsz, hu, cond_false, sgBox, hl, ha, cellA, hx]; exact h1 G, h2⟩
    · cases h
  · cases h

theorem storeA_any {γ : Type} {C : Cfg} {ns : Bool} {lo : List (Option (List Ent))} {sg : Sig} {t : TypeId} {p : AVal} {e : Ent} {K : Dl → Option β} (h : storeA C ns lo sg t p e K = some r) :
    ∃ d, (∀ G : Dl → Option γ, storeA C ns lo sg t p e G = G d) ∧ K d = some r := by
  unfold storeA at h
  split at h
  · rename_i size cs hsz hcs
    obtain ⟨h1, h2⟩ := cond_any h
    split at h2
    · split at h2
      · rename_i cells hcells
        obtain ⟨h3, h4⟩ := cond_any h2
        exact ⟨_, fun G => by simp only [storeA, hsz, hcs, h1, cond_true, hcells, h3], h4⟩
      · cases h2
    · rename_i i off
      cases hns : (ns || !plainA e.1) with
      | true => rw [hns] at h2; cases h2
      | false =>
        rw [hns, cond_false] at h2
        obtain ⟨l, hl, h2⟩ := sgBox_some h2
        obtain ⟨h3, h4⟩ := cond_any h2
        exact ⟨_, fun G => by simp only [storeA, hsz, hcs, h1, cond_true, hns, cond_false, sgBox, hl, h3], h4⟩
    · cases h2
  · cases h

theorem nilA_any {γ : Type} {P : Program} {op : BinOp} {t : TypeId} {x : AVal} {F : Dat → Option β} (h : nilA P op t x F = some r) : ∃ d, (∀ G : Dat → Option γ, nilA P op t x G = G d) ∧ F d = some r := by
  unfold nilA at h
  split at h
  · obtain ⟨h1, h2⟩ := cond_any h
    exact ⟨_, fun G => by simp only [nilA, h1, cond_true], h2⟩
  · obtain ⟨h1, h2⟩ := cond_any h
    exact ⟨_, fun G => by simp only [nilA, h1, cond_true], h2⟩
  · cases h
theorem immA_any {γ : Type} {P : Program} {t : TypeId} {e : Ent} {K : Dl → Option β} (h : immA P t e K = some r) : ∃ d, (∀ G : Dl → Option γ, immA P t e G = G d) ∧ K d = some r := by
  unfold immA at h
  split at h
  · rename_i ds n h1 h2
    obtain ⟨h3, h4⟩ := cond_any h
    exact ⟨_, fun G => by simp only [immA, h1, h2, h3, cond_true], h4⟩
  · cases h
theorem immA_val {P : Program} {t : TypeId} {e : Ent} {d : Dl} (h : immA P t e some = some d) : ∃ ds, entDats e = some ds ∧ d = .val (.imm ds, .none) := by
  unfold immA at h
  split at h
  · rename_i ds n h1 h2
    obtain ⟨h3, h4⟩ := cond_any h
    cases h4
    exact ⟨ds, h1, rfl⟩
  · cases h
theorem newA_any {γ : Type} {C : Cfg} {f : FuncId} {ns : Bool} {lo : List (Option (List Ent))} {sg : Sig} {dst : Option Nat} {cells : List Ent} {K : Dl → Option β} (h : newA C f ns lo sg dst cells K = some r) :
    ∃ d, (∀ G : Dl → Option γ, newA C f ns lo sg dst cells G = G d) ∧ K d = some r := by
  unfold newA at h
  split at h
  · cases h
  · rename_i t
    cases he : C.esc f t with
    | true =>
      rw [he, cond_true] at h
      cases hns : (ns || !handsAll (cells.map fun c => c.1)) with
      | true => rw [hns] at h; cases h
      | false =>
        rw [hns, cond_false] at h
        exact ⟨_, fun G => by simp only [newA, he, cond_true, hns, cond_false], h⟩
    | false =>
      rw [he, cond_false] at h
      split at h
      · rename_i hnone
        obtain ⟨h1, h2⟩ := cond_any h
        exact ⟨_, fun G => by simp only [newA, he, cond_false, hnone, h1, cond_true], h2⟩
      · cases h

theorem growA_some {dst : Option Nat} {z : Nat × Nat} {x : AVal} {K : Dl → Option β} (h : growA dst z x K = some r) :
    ∃ d n, dst = some d ∧ x = .dat (.int .i64 n) ∧ 0 ≤ n ∧ n.toNat * (z.2 + 1) ≤ roomMax ∧ 0 < z.1 ∧ K (.clr (8 * d) (.dat (.sl []), .id (8 * d) z.1)) = some r := by
  unfold growA at h
  split at h
  · obtain ⟨h1, h2⟩ := cond_any h
    simp only [Bool.and_eq_true, decide_eq_true_eq] at h1
    exact ⟨_, _, rfl, rfl, h1.1.1, h1.1.2, h1.2, h2⟩
  · cases h

theorem growA_any {γ : Type} {dst : Option Nat} {z : Nat × Nat} {x : AVal} {K : Dl → Option β} (h : growA dst z x K = some r) :
    ∃ d, (∀ G : Dl → Option γ, growA dst z x G = G d) ∧ K d = some r := by
  obtain ⟨d, n, rfl, rfl, h1, h2, h3, h4⟩ := growA_some h
  exact ⟨_, fun G => by simp only [growA, decide_eq_true h1, decide_eq_true h2, decide_eq_true h3, Bool.and_self, cond_true], h4⟩

theorem nilGrowOf_some {C : Cfg} {fo : Operand} {args : List Operand} {p : (Nat × Nat) × Operand} (h : nilGrowOf C fo args = some p) :
    ∃ g, fo = .func g ∧ args = [.const (.slice none 0 0), p.2] ∧ C.nilGrow g = some p.1 := by
  unfold nilGrowOf at h
  split at h
  · rename_i g x
    rw [Option.map_eq_some_iff] at h
    obtain ⟨z, hz, rfl⟩ := h
    exact ⟨g, rfl, rfl, hz⟩
  · cases h

theorem ownRes1_some {z : Nat} {rs : List Ent} {F : List (List Dat) → Option β} (h : ownRes1 z rs F = some r) : ∃ fs t, rs = [(.dat (.sl fs), .id t z)] ∧ F fs = some r := by
  unfold ownRes1 at h
  split at h
  · rename_i fs t m
    obtain ⟨h1, h2⟩ := cond_any h
    have h1 : m = z := by simpa using h1
    subst h1
    exact ⟨_, _, rfl, h2⟩
  · cases h

theorem ownCallA_some {C : Cfg} {call : CallFn} {g : FuncId} {z : Nat} {x : Ent} {rest : List AVal} {K : Dl → Option β} (h : ownCallA C call g z x rest K = some r) :
    ∃ fn es t rs sg' fs u, C.P.funcs[g]? = some fn ∧ x = (.dat (.sl es), .id t z) ∧ handsAll rest = true ∧ plainL rest = true ∧ (fn.body.isSome = true ∧ strictO t = false) ∧
      call g (.dat (.sl es) :: rest.map stripA) [] = some (rs, sg') ∧ rs = [(.dat (.sl fs), .id u z)] ∧ K (.clr t (.dat (.sl fs), .id t z)) = some r := by
  unfold ownCallA at h
  split at h
  · rename_i fn es t n hfn
    obtain ⟨h1, h2⟩ := cond_any h
    simp only [Bool.and_eq_true, beq_iff_eq, Bool.not_eq_true'] at h1
    obtain ⟨⟨⟨⟨h3, h4⟩, h5⟩, rfl⟩, hns⟩ := h1
    rw [Option.bind_eq_some_iff] at h2
    obtain ⟨⟨rs, sg'⟩, h6, h7⟩ := h2
    obtain ⟨fs, u, h8, h9⟩ := ownRes1_some h7
    exact ⟨fn, es, t, rs, sg', fs, u, hfn, rfl, h3, h4, ⟨h5, hns⟩, h6, h8, h9⟩
  · cases h

theorem ownCallA_any {γ : Type} {C : Cfg} {call : CallFn} {g : FuncId} {z : Nat} {x : Ent} {rest : List AVal} {K : Dl → Option β} (h : ownCallA C call g z x rest K = some r) :
    ∃ d, (∀ G : Dl → Option γ, ownCallA C call g z x rest G = G d) ∧ K d = some r := by
  obtain ⟨fn, es, t, rs, sg', fs, u, h1, rfl, h3, h4, h5, h6, rfl, h8⟩ := ownCallA_some h
  exact ⟨_, fun G => by simp [ownCallA, h1, h3, h4, h5.1, h5.2, h6, ownRes1], h8⟩

theorem ownArgOf_some {C : Cfg} {fo : Operand} {args : List Operand} {p : (FuncId × Nat) × Operand × List Operand} (h : ownArgOf C fo args = some p) :
    fo = .func p.1.1 ∧ args = p.2.1 :: p.2.2 ∧ C.ownArg p.1.1 = some p.1.2 := by
  unfold ownArgOf at h
  split at h
  · rename_i g x rest
    rw [Option.map_eq_some_iff] at h
    obtain ⟨z, hz, rfl⟩ := h
    exact ⟨rfl, rfl, hz⟩
  · cases h

theorem newB_some {C : Cfg} {f : FuncId} {ns : Bool} {sg : Sig} {dst : Option Nat} {cs : List (Dat × Own)} {K : Dl → Option β} (h : newB C f ns sg dst cs K = some r) :
    ∃ t, dst = some t ∧ C.esc f t = true ∧ ns = false ∧ zeroBld cs = true ∧ K (.sig (sg ++ [Box.bld ⟨#[]⟩]) (.ref sg.length 0, .none)) = some r := by
  unfold newB at h
  split at h
  · cases h
  · obtain ⟨h1, h2⟩ := cond_any h
    simp only [Bool.and_eq_true] at h1
    exact ⟨_, rfl, h1.1.1, by simpa using h1.1.2, h1.2, h2⟩

theorem newB_any {γ : Type} {C : Cfg} {f : FuncId} {ns : Bool} {sg : Sig} {dst : Option Nat} {cs : List (Dat × Own)} {K : Dl → Option β} (h : newB C f ns sg dst cs K = some r) :
    ∃ d, (∀ G : Dl → Option γ, newB C f ns sg dst cs G = G d) ∧ K d = some r := by
  obtain ⟨t, rfl, h1, h2, h3, h4⟩ := newB_some h
  exact ⟨_, fun G => by simp only [newB, h1, h2, h3, Bool.not_false, Bool.and_self, cond_true], h4⟩

theorem appendA_any {γ : Type} {C : Cfg} {dst : Option Nat} {ts : Array TypeId} {x y : Ent} {K : Dl → Option β} (h : appendA C dst ts x y K = some r) :
    ∃ d, (∀ G : Dl → Option γ, appendA C dst ts x y G = G d) ∧ K d = some r := by
  unfold appendA at h
  split at h
  · rename_i d el ty h1 h2
    split at h
    · rename_i i es own dy hi hy
      split at h
      · rename_i fs hfs
        obtain ⟨h3, h4⟩ := cond_any h
        split at h4
        · rename_i t size
          obtain ⟨h5, h6⟩ := cond_any h4
          exact ⟨_, fun G => by simp only [appendA, h1, h2, hi, hy, hfs, h3, h5, cond_true], h6⟩
        · exact ⟨_, fun G => by simp only [appendA, h1, h2, hi, hy, hfs, h3, cond_true], h4⟩
        · cases h4
      · cases h
    · cases h
  · cases h

theorem callA_any {γ : Type} {C : Cfg} {call : CallFn} {ns : Bool} {sg : Sig} {dst : Option Nat} {g : FuncId} {args : List AVal} {K : Dl → Option β} (h : callA C call ns sg dst g args K = some r) :
    ∃ d, (∀ G : Dl → Option γ, callA C call ns sg dst g args G = G d) ∧ K d = some r := by
  unfold callA at h
  split at h
  · rename_i fn dt hfn
    cases hh : (!handsAll args || fn.body.isNone || (C.ownArg g).isSome) with
    | true => rw [hh] at h; cases h
    | false =>
      rw [hh, cond_false] at h
      cases hpl : (plainL args && fn.resultTypes.toList.all (plainT C.P)) with
      | true =>
        rw [hpl, cond_true] at h
        simp only [Option.bind_eq_some_iff] at h
        obtain ⟨⟨rs, sg'⟩, hc, h⟩ := h
        obtain ⟨es, h1, h2⟩ := decVals_any (γ := γ) h
        split at h2
        · rename_i i n hown
          obtain ⟨h3, h4⟩ := cond_any h2
          exact ⟨_, fun G => by
            simp only [callA, hfn, hh, cond_false, hpl, cond_true, hc, Option.bind_some]
            rw [h1]
            simp only [hown, h3, cond_true], h4⟩
        · rename_i hown
          exact ⟨_, fun G => by
            simp only [callA, hfn, hh, cond_false, hpl, cond_true, hc, Option.bind_some]
            rw [h1]
            simp only [hown], h2⟩
      | false =>
        rw [hpl, cond_false] at h
        cases hns : (ns || (C.ownRes g).isSome) with
        | true => rw [hns] at h; cases h
        | false =>
          rw [hns, cond_false] at h
          simp only [Option.bind_eq_some_iff] at h
          obtain ⟨⟨rs, sg'⟩, hc, h⟩ := h
          obtain ⟨es, h1, h2⟩ := decVals_any (γ := γ) h
          exact ⟨_, fun G => by
            simp only [callA, hfn, hh, cond_false, hpl, hns, hc, Option.bind_some]
            rw [h1], h2⟩
  · cases h

end
end Go.Aev

end
section
/- An operation of the evaluator is the machine's. -/
namespace Go.Aev

section
variable {β γ : Type} {r : β}

theorem evD_any {C : Cfg} {call : CallFn} {f : FuncId} {ns : Bool} {ev : Operand → Ent} {lo : List (Option (List Ent))} {sg : Sig} {o : Oper} {K : Dl → Option β} (h : evD C call f ns ev lo sg o K = some r) :
    ∃ d, (∀ G : Dl → Option γ, evD C call f ns ev lo sg o G = G d) ∧ K d = some r := by
  unfold evD at h ⊢
  cases hop : o.op <;> simp only [hop] at h ⊢
  case move x => exact ⟨_, fun G => rfl, h⟩
  case assign x => exact ⟨_, fun G => rfl, h⟩
  case pick c x y =>
    split at h
    · rename_i t ht
      split at h
      · rename_i p op q oq hx hy
        exact ⟨_, fun G => rfl, h⟩
      · rename_i x' y' hne
        cases t with
        | true => exact ⟨_, fun G => rfl, h⟩
        | false => exact ⟨_, fun G => rfl, h⟩
    · cases h
  case alloc t =>
    split at h
    · rename_i cs hcs
      cases hb : (t == C.bld.1) with
      | true => rw [hb, cond_true] at h; simp only [cond_true]; exact newB_any h
      | false => rw [hb, cond_false] at h; simp only [cond_false]; exact newA_any h
    · cases h
  case box t x =>
    cases hi : C.imm t with
    | true =>
      rw [hi, cond_true] at h
      obtain ⟨d, h1, h2⟩ := immA_any (γ := γ) h
      exact ⟨d, fun G => by rw [cond_true]; exact h1 G, h2⟩
    | false =>
    rw [hi, cond_false] at h
    simp only [cond_false]
    split at h
    · rename_i cs n h1 h2
      obtain ⟨h3, h4⟩ := cond_any h
      obtain ⟨d, h5, h6⟩ := newA_any (γ := γ) h4
      exact ⟨d, fun G => by rw [h3, cond_true]; exact h5 G, h6⟩
    · cases h
  case makeInterface t x =>
    split at h
    · obtain ⟨h1, h2⟩ := cond_any h
      exact ⟨_, fun G => by rw [h1, cond_true], h2⟩
    · cases h
  case build t parts =>
    split at h
    · rename_i fs zs h1 h2
      split at h
      · split at h
        · exact ⟨_, fun G => rfl, h⟩
        · cases h
      · cases h
    · split at h
      · split at h
        · exact ⟨_, fun G => rfl, h⟩
        · cases h
      · cases h
    · cases h
  case buildSlice t len parts =>
    split at h
    · split at h
      · obtain ⟨h3, h4⟩ := cond_any h
        split at h4
        · cases h1 : (len == 1) with
          | true => rw [h1, cond_true] at h4; exact ⟨_, fun G => by rw [h3, cond_true, cond_true], h4⟩
          | false => rw [h1, cond_false] at h4; exact ⟨_, fun G => by rw [h3, cond_true, cond_false], h4⟩
        · cases h4
      · cases h
    · cases h
  case load t p =>
    obtain ⟨e, h1, h2⟩ := loadA_any (γ := γ) h
    exact ⟨_, fun G => h1 _, h2⟩
  case store t p x => exact storeA_any h
  case nilCheck x =>
    split at h
    · exact ⟨_, fun G => rfl, h⟩
    · exact ⟨_, fun G => rfl, h⟩
    · exact ⟨_, fun G => rfl, h⟩
    · cases h
  case binOp op t x y u =>
    cases hn : nilO y with
    | true =>
      rw [hn, cond_true] at h
      obtain ⟨e, h1, h2⟩ := nilA_any (γ := γ) h
      exact ⟨_, fun G => by rw [cond_true]; exact h1 _, h2⟩
    | false =>
    rw [hn, cond_false] at h
    obtain ⟨e, h1, h2⟩ := binA_any (γ := γ) h
    exact ⟨_, fun G => by rw [cond_false]; exact h1 _, h2⟩
  case unOp op t x =>
    obtain ⟨e, h1, h2⟩ := unA_any (γ := γ) h
    exact ⟨_, fun G => h1 _, h2⟩
  case convert s d x =>
    obtain ⟨e, h1, h2⟩ := convA_any (γ := γ) h
    exact ⟨_, fun G => h1 _, h2⟩
  case makeFunc fn first caps =>
    obtain ⟨h1, h2⟩ := cond_any h
    exact ⟨_, fun G => by rw [h1, cond_true], h2⟩
  case makeSlice t l c =>
    split at h
    · split at h
      · obtain ⟨h3, h4⟩ := cond_any h
        exact ⟨_, fun G => by rw [h3, cond_true], h4⟩
      · cases h
    · cases h
  case slice t x lo hi mx =>
    split at h
    · obtain ⟨l, h1, h2⟩ := boundA_any (γ := γ) h
      obtain ⟨n, h3, h4⟩ := boundA_any (γ := γ) h2
      obtain ⟨h5, h6⟩ := cond_any h4
      exact ⟨_, fun G => by rw [h1, h3, h5, cond_true], h6⟩
    · obtain ⟨l, h1, h2⟩ := boundA_any (γ := γ) h
      obtain ⟨n, h3, h4⟩ := boundA_any (γ := γ) h2
      obtain ⟨m, h5, h6⟩ := boundA_any (γ := γ) h4
      split at h6
      · obtain ⟨h7, h8⟩ := cond_any h6
        exact ⟨_, fun G => by rw [h1, h3, h5, h7, cond_true], h8⟩
      · cases h6
    · cases h
  case fieldAddr t x i =>
    split at h
    · split at h
      · rename_i n hn
        cases h0 : (n == 0) with
        | true => rw [h0] at h; cases h
        | false =>
          rw [h0, cond_false] at h
          split at h
          · exact ⟨_, fun G => by rw [cond_false], h⟩
          · exact ⟨_, fun G => by rw [cond_false], h⟩
          · exact ⟨_, fun G => by rw [cond_false], h⟩
          · cases h
      · cases h
    · cases h
  case field t x i =>
    split at h
    · split at h
      · rename_i fd cs _ _ _ _ n _ hn _
        cases ha : isAggT C.P fd.type with
        | true =>
          rw [ha, cond_true] at h
          obtain ⟨h1, h2⟩ := cond_any h
          exact ⟨_, fun G => by rw [cond_true, h1, cond_true], h2⟩
        | false =>
          rw [ha, cond_false] at h
          split at h
          · rename_i c hc
            exact ⟨_, fun G => by rw [cond_false], h⟩
          · cases h
      · cases h
    · cases h
  case indexAddr t x i =>
    split at h
    · split at h
      · obtain ⟨e, h1, h2⟩ := elemAt_any (γ := γ) h
        obtain ⟨h3, h4⟩ := cond_any h2
        exact ⟨_, fun G => by rw [h1, h3, cond_true], h4⟩
      · cases h
    · split at h
      · obtain ⟨h3, h4⟩ := cond_any h
        have h5 := h3
        simp only [Bool.and_eq_true, decide_eq_true_eq] at h5
        split at h4
        · rw [splitN_in (Nat.zero_le _) (by omega)] at h4
          exact ⟨_, fun G => by rw [h3, cond_true, splitN_in (Nat.zero_le _) (by omega)], h4⟩
        · exact ⟨_, fun G => by rw [h3, cond_true], h4⟩
        · exact ⟨_, fun G => by rw [h3, cond_true], h4⟩
        · cases h4
      · cases h
    · cases h
  case index t x i =>
    split at h
    · obtain ⟨e, h1, h2⟩ := byteAt_any (γ := γ) h
      exact ⟨_, fun G => h1 _, h2⟩
    · split at h
      · obtain ⟨h3, h4⟩ := cond_any h
        split at h4
        · obtain ⟨h5, h6⟩ := shpA_same h4
          exact ⟨_, fun G => by rw [h3, cond_true]; exact h6 _ _, h5⟩
        · cases h4
      · cases h
    · cases h
  case extract x i =>
    split at h
    · split at h
      · exact ⟨_, fun G => rfl, h⟩
      · cases h
    · cases h
  case call c =>
    split at h
    · split at h
      · obtain ⟨e, h1, h2⟩ := lenA_any (γ := γ) h
        exact ⟨_, fun G => h1 _, h2⟩
      · cases h
    · split at h
      · exact appendA_any h
      · cases h
    · split at h
      · exact ⟨_, fun G => rfl, h⟩
      · cases h
    · split at h
      · exact ⟨_, fun G => rfl, h⟩
      · cases h
    · split at h
      · exact growA_any h
      split at h
      · exact ownCallA_any h
      · split at h
        · obtain ⟨h1, h2⟩ := cond_any h
          obtain ⟨d, h3, h4⟩ := callA_any (γ := γ) h2
          exact ⟨d, fun G => by rw [h1, cond_true]; exact h3 G, h4⟩
        · cases h
    · cases h
  all_goals cases h
end
end Go.Aev

end
section
/- An operation of the evaluator is the machine's. -/
namespace Go.Aev

section
variable {C : Cfg} {w0 : World} {M0 : Nat → Nat} {sm0 : List Nat} {X0 : Nat → Bool} {g : Gh} {s : St} {a : Act} {w : World}

/-- what the step leaves -/
def Done (C : Cfg) (w0 : World) (M0 : Nat → Nat) (sm0 : List Nat) (X0 : Nat → Bool) (s : St) : Act → World → Prop := fun a w => ∃ g, Inv C w0 M0 sm0 X0 g s a w

theorem getElem_map {α β : Type} {l : List α} {f : α → β} {i : Nat} {y : β} (h : (l.map f)[i]? = some y) : ∃ x, l[i]? = some x ∧ f x = y := by
  rwa [List.getElem?_map, Option.map_eq_some_iff] at h

theorem list_one {α : Type} {l : List α} {x : α} (h : l = [x]) : l.toArray = #[x] := by rw [h]

theorem minmax_run {P : Program} {ρa : Operand → Ent} {ρ : Operand → Value} {base : Nat} (hρ : ∀ x, RepE w g base (ρa x) (ρ x)) {args : Array Operand} {mx : Bool} {d : Dat} (h : minA mx (args.toList.map fun x => (ρa x).1) = some d) :
    ∃ v, (∀ ty ts, (if mx then Builtin.max_ ts ty (args.map ρ) else Builtin.min_ ts ty (args.map ρ)).run P w = .ok v w) ∧ Rep w g.M d v := by
  have val : ∀ {x : Operand} {k : IntKind} {n : Int}, (ρa x).1 = .dat (.int k n) → ρ x = .int k n := by
    intro x k n hx
    have := (hρ x).1
    rw [hx] at this
    generalize ρ x = u at this
    cases this.dat_inv; rfl
  obtain ⟨l⟩ := args
  simp only at h
  match l, h with
  | [], h => cases h
  | [_], h => unfold minA at h; split at h <;> simp_all
  | [x, y], h =>
    unfold minA at h
    split at h
    · rename_i k a k' b he
      simp only [List.map_cons, List.map_nil, List.cons.injEq, and_true] at he
      obtain ⟨h1, h2⟩ := cond_none rfl h
      simp only [beq_iff_eq] at h1
      subst h1
      cases h2
      refine ⟨.int k (cond mx (max a b) (min a b)), fun ty ts => ?_, .int _ _⟩
      cases mx
      · simp only [Bool.false_eq_true, if_false, cond_false]
        simp [Builtin.min_, val he.1, val he.2, Builtin.min2]
        omega
      · simp only [if_true, cond_true]
        simp [Builtin.max_, val he.1, val he.2, Builtin.max2]
        omega
    · rename_i he; simp at he
    · cases h
  | [x, y, z], h =>
    unfold minA at h
    split at h
    · rename_i he; simp at he
    · rename_i k a k' b k'' c he
      simp only [List.map_cons, List.map_nil, List.cons.injEq, and_true] at he
      obtain ⟨h1, h2⟩ := cond_none rfl h
      simp only [Bool.and_eq_true, beq_iff_eq] at h1
      obtain ⟨rfl, rfl⟩ := h1
      cases h2
      refine ⟨.int k (cond mx (max (max a b) c) (min (min a b) c)), fun ty ts => ?_, .int _ _⟩
      cases mx
      · simp only [Bool.false_eq_true, if_false, cond_false]
        simp [Builtin.min_, val he.1, val he.2.1, val he.2.2, Builtin.min2]
        omega
      · simp only [if_true, cond_true]
        simp [Builtin.max_, val he.1, val he.2.1, val he.2.2, Builtin.max2]
        omega
    · cases h
  | _ :: _ :: _ :: _ :: _, h => unfold minA at h; split at h <;> simp_all

theorem evD_sound {call : CallFn} {f : FuncId} {ns : Bool} {o : Oper} {d : Dl} {Q : Exit → Act → World → Prop} (hC : CfgOk C) (hcall : CallOK C call) (hI : Inv C w0 M0 sm0 X0 g s a w)
    (h : evD C call f ns (s.ev C) s.lo s.sg o some = some d) : o.wp C.P a w (Done C w0 M0 sm0 X0 (d.apply s o.dst)) Q := by
  have hρ : ∀ x, RepE w g w0.heap.size (s.ev C x) (a.eval x) := hI.ev
  have vals : ∀ {e : Ent} {v : Value}, (execOp a.eval o).run C.P w = .ok (.value v) w → RepE w g w0.heap.size e v → o.wp C.P a w (Done C w0 M0 sm0 X0 (Dl.apply (.val e) s o.dst)) Q :=
    fun h1 h2 => wp_value h1 ⟨g, hI.put h2 o.dst⟩
  unfold evD at h
  cases hop : o.op <;> simp only [hop] at h
  case move x => cases h; exact vals (by unfold execOp; rw [hop]; rfl) (hρ x)
  case assign x => cases h; exact vals (by unfold execOp; rw [hop]; rfl) (hρ x)
  case pick c x y =>
    split at h
    · rename_i t ht
      have hc : a.eval c = .bool t := by
        have := (hρ c).1
        rw [ht] at this
        generalize a.eval c = u at this
        cases this.dat_inv; rfl
      split at h
      · rename_i p op q oq hx hy
        cases h
        have h1 : a.eval x = .bool p := by
          have := (hρ x).1
          rw [hx] at this
          generalize a.eval x = u at this
          cases this.dat_inv; rfl
        have h2 : a.eval y = .bool q := by
          have := (hρ y).1
          rw [hy] at this
          generalize a.eval y = u at this
          cases this.dat_inv; rfl
        refine vals (v := .bool (cond t p q)) ?_ ⟨.dat (.bool _), trivial⟩
        unfold execOp
        rw [hop]
        cases t <;> simp [hc, h1, h2, Go.asBool]
      · cases t with
        | true => cases h; exact vals (by unfold execOp; rw [hop]; simp [hc, Go.asBool]) (hρ x)
        | false => cases h; exact vals (by unfold execOp; rw [hop]; simp [hc, Go.asBool]) (hρ y)
    · cases h
  case alloc t =>
    split at h
    · rename_i cs hcs
      obtain ⟨i, z, hi, hz, hc⟩ := zeroCells_some hcs
      have hz0 := zero_rep (w := w) (g := g) (base := w0.heap.size) hc
      have hnew : ∃ g', Inv C w0 M0 sm0 X0 g' (d.apply s o.dst) (a.put o.dst (.pointer (some ⟨w.heap.size, 0, none⟩))) (w.alloc (.cells z.cells t)) := by
        cases hb : (t == C.bld.1) with
        | true =>
          rw [hb, cond_true] at h
          have hb : t = C.bld.1 := by simpa using hb
          subst hb
          obtain ⟨d', g', h1, h2⟩ := newB_run (cur := z.cells) hI h hc
          cases h1
          exact ⟨g', h2⟩
        | false =>
          rw [hb, cond_false] at h
          obtain ⟨d', g', h1, h2⟩ := new_run (cur := z.cells) (T := t) hI h (by simpa using hz0.1) (fun k e v he hv => by
            obtain ⟨c, hc', rfl⟩ := getElem_map he
            obtain ⟨h3, h4⟩ := hz0.2 k c v hc' hv
            exact ⟨h3.one, .dat h3, h4⟩) (fun e he cs' hc' => by
            obtain ⟨c, _, rfl⟩ := List.mem_map.1 he
            cases hc') (by simpa using hb)
          cases h1
          exact ⟨g', h2⟩
      obtain ⟨g', h2⟩ := hnew
      refine wp_value (w' := w.alloc (.cells z.cells t)) ?_ ⟨g', h2⟩
      unfold execOp
      rw [hop]
      simp only [Instr.alloc, zeroValue, typeInfo, newVar, newRow, Sem.run_bind, run_program, Result.andThen_ok, hi, hz, Sem.run_pure, run_newObj]
      rfl
    · cases h
  case box t x =>
    cases him : C.imm t with
    | true =>
      rw [him, cond_true] at h
      obtain ⟨ds, hds, rfl⟩ := immA_val h
      obtain ⟨hl, hcell⟩ := entDats_rep hds (hρ x)
      have hnew := hI.alloc (.cells (a.eval x).cells t) .imm (a.eval x).cells.size
      have hrep : RepA (w.alloc (.cells (a.eval x).cells t)) (g.new w.heap.size .imm (a.eval x).cells.size) w0.heap.size (.imm ds) (.pointer (some ⟨w.heap.size, 0, none⟩)) := by
        have hkeep := (ext_alloc w g w0.heap.size (.cells (a.eval x).cells t) .imm (a.eval x).cells.size).keeps
        refine .b (.imm (fun k => (a.eval x).cells.getD k Go.undef) rfl (fun k hk => ?_) fun k d hd => ?_)
        · have hk : k < (a.eval x).cells.size := by omega
          rw [add_eq rfl]
          simp only [Nat.zero_add]
          rw [cell_alloc]
          exact ⟨by simp [hk], by simp only [Gh.new, if_true]; exact hk⟩
        · have hk : k < (a.eval x).cells.size := by
            have := (List.getElem?_eq_some_iff.1 hd).1
            omega
          refine (hcell k d _ hd ?_).mono hkeep
          simp [hk]
      refine wp_value (w' := w.alloc (.cells (a.eval x).cells t)) ?_ ⟨_, hnew.put (e := (.imm ds, .none)) ⟨hrep, trivial⟩ o.dst⟩
      unfold execOp
      rw [hop]
      simp only [Instr.box, newVar, newRow, Sem.run_bind, Result.andThen_ok, Sem.run_pure, run_newObj]
      rfl
    | false =>
    rw [him, cond_false] at h
    split at h
    · rename_i cs n hcs hn
      obtain ⟨h3, h4⟩ := cond_none rfl h
      obtain ⟨hl, hcell⟩ := entCells_rep hcs (hρ x)
      obtain ⟨d', g', h1, h2⟩ := new_run (cur := (a.eval x).cells) (T := t) hI h4 hl hcell (fun e he cs' hc' => by
        unfold entCells at hcs
        split at hcs <;> simp only [Option.some.injEq, reduceCtorEq] at hcs <;> subst hcs
        · obtain ⟨c, _, rfl⟩ := List.mem_map.1 he
          cases hc'
        all_goals
          rename_i hx
          simp only [List.mem_singleton] at he
          subst he
          rw [hx] at hc'
          cases hc') (by simp only [Bool.and_eq_true] at h3; simpa using h3.2)
      cases h1
      refine wp_value (w' := w.alloc (.cells (a.eval x).cells t)) ?_ ⟨g', h2⟩
      unfold execOp
      rw [hop]
      simp only [Instr.box, newVar, newRow, Sem.run_bind, Result.andThen_ok, Sem.run_pure, run_newObj]
      rfl
    · cases h
  case build t parts =>
    split at h
    · rename_i fs zs hu hz
      split at h
      · rename_i places hp
        split at h
        · rename_i cs hf
          cases h
          obtain ⟨v, h1, h2⟩ := build_run (P := C.P) hρ hz hf (fun i z hi hz' vs hv => by
            unfold Program.built
            simp only [hi, hu, hz', hp]
            exact hv)
          refine vals ?_ h2
          unfold execOp
          rw [hop]
          simp only [Sem.run_bind, h1, Result.andThen_ok, Sem.run_pure]
        · cases h
      · cases h
    · rename_i len e zs hu hz
      split at h
      · rename_i n hn
        split at h
        · rename_i cs hf
          cases h
          obtain ⟨ie, hie, rfl⟩ : ∃ ie, C.P.info? e = some ie ∧ ie.size = n := by
            unfold sizeT at hn
            simpa using hn
          obtain ⟨v, h1, h2⟩ := build_run (P := C.P) hρ hz hf (fun i z hi hz' vs hv => by
            unfold Program.built
            simp only [hi, hu, hz', hie]
            exact hv)
          refine vals ?_ h2
          unfold execOp
          rw [hop]
          simp only [Sem.run_bind, h1, Result.andThen_ok, Sem.run_pure]
        · cases h
      · cases h
    · cases h
  case buildSlice t len parts =>
    split at h
    · rename_i e dt hu hdst
      split at h
      · rename_i n zs hn hz
        obtain ⟨h3, h4⟩ := cond_none rfl h
        simp only [Bool.and_eq_true, decide_eq_true_eq, beq_iff_eq] at h3
        obtain ⟨⟨h3, h5⟩, h6⟩ := h3
        split at h4
        · rename_i cs hf
          cases h1 : (len == 1) with
          | true =>
            rw [h1, cond_true] at h4
            cases h4
            obtain ⟨v, w', g', h7, h8⟩ := buildSlice_full hI hρ hu hn hz h3 h5 h6 hf dt
            rw [hdst]
            refine wp_value (w' := w') ?_ ⟨g', by rw [hdst]; exact h8⟩
            unfold execOp
            rw [hop]
            simp only [Sem.run_bind, h7, Result.andThen_ok, Sem.run_pure]
          | false =>
            rw [h1, cond_false] at h4
            cases h4
            obtain ⟨v, w', g', h7, h8⟩ := buildSlice_run hI hρ hu hn hz h3 h5 h6 hf dt (8 * dt)
            rw [hdst]
            refine wp_value (w' := w') ?_ ⟨g', by rw [hdst]; exact h8⟩
            unfold execOp
            rw [hop]
            simp only [Sem.run_bind, h7, Result.andThen_ok, Sem.run_pure]
        · cases h4
      · cases h
    · cases h
  case load t p =>
    obtain ⟨e, u, h1, h2, h3⟩ := load_run hI (hρ p).1 h
    cases h1
    refine vals ?_ h3
    unfold execOp
    rw [hop]
    simp only [Sem.run_bind, h2, Result.andThen_ok, Sem.run_pure]
  case store t p x =>
    obtain ⟨d', w', h1, h2, h3⟩ := store_run hI (hρ p).1 (hρ x) h o.dst
    cases h1
    refine wp_skipped (w' := w') ?_ ⟨g, h3⟩
    unfold execOp
    rw [hop]
    simp only [Sem.run_bind, h2, Result.andThen_ok, Sem.run_pure]
  case nilCheck x =>
    have key : ∀ {p : AVal} {ow : Own} {ad : Addr}, s.ev C x = (p, ow) → a.eval x = .pointer (some ad) → o.wp C.P a w (Done C w0 M0 sm0 X0 (Dl.apply (.val (p, ow)) s o.dst)) Q := by
      intro p ow ad h1 h2
      refine vals (v := .pointer (some ad)) ?_ ?_
      · unfold execOp
        rw [hop]
        simp only [h2]
        rfl
      · have := hρ x
        rw [h1, h2] at this
        exact this
    split at h
    · rename_i u off ow hx
      cases h
      have := (hρ x).1
      rw [hx] at this
      obtain ⟨b, _, hv⟩ := this.loc_inv
      exact key hx hv
    · rename_i cs ow hx
      cases h
      have := (hρ x).1
      rw [hx] at this
      obtain ⟨ad, vs, hv, _⟩ := this.imm_inv
      exact key hx hv
    · rename_i i off ow hx
      cases h
      have := (hρ x).1
      rw [hx] at this
      obtain ⟨b, _, hv⟩ := this.ref_inv
      exact key hx hv
    · cases h
  case makeInterface t x =>
    split at h
    · rename_i cs hx
      obtain ⟨h1, h2⟩ := cond_none rfl h
      cases h2
      have := (hρ x).1
      rw [hx] at this
      obtain ⟨ad, vs, hv, hs, hc, hr⟩ := this.imm_inv
      refine vals (v := .iface t (a.eval x)) ?_ ⟨.dat (by rw [hv]; exact .ifp vs hs hc hr), trivial⟩
      unfold execOp
      rw [hop]
      unfold concT at h1
      split at h1
      · cases h1
      · rename_i u hu hne
        simp only [Instr.makeInterface, Sem.run_bind, run_underlying hne, Result.andThen_ok, Sem.run_pure]
      · cases h1
    · cases h
  case binOp op t x y u =>
    cases hno : nilO y with
    | true =>
      rw [hno, cond_true] at h
      have hoy : y = .const .nilIface := by
        unfold nilO at hno
        split at hno
        · rfl
        · cases hno
      obtain ⟨dd, h1, h2⟩ := nilA_any (γ := Dat) h
      cases h2
      obtain ⟨v, h3, h4⟩ := nilA_run (ox := x) hno (h1 some) (hρ x).1
      refine vals (v := v) ?_ ⟨.dat h4, trivial⟩
      unfold execOp
      rw [hop, hoy]
      rw [Sem.run_bind] at h3
      rw [hoy] at h3
      have hen : a.eval (.const .nilIface) = .nilIface := rfl
      simp only [Sem.run_bind, hen, h3, Result.andThen_ok, Sem.run_pure]
    | false =>
    rw [hno, cond_false] at h
    obtain ⟨dd, h1, h2⟩ := binA_any (γ := Dat) h
    cases h2
    obtain ⟨v, h3, h4⟩ := binA_run (ox := x) (oy := y) (h1 some) (hρ x).1 (hρ y).1
    refine vals (v := v) ?_ ⟨.dat h4, trivial⟩
    unfold execOp
    rw [hop]
    rw [Sem.run_bind] at h3
    simp only [Sem.run_bind, h3, Result.andThen_ok, Sem.run_pure]
  case unOp op t x =>
    obtain ⟨dd, h1, h2⟩ := unA_any (γ := Dat) h
    cases h2
    obtain ⟨v, h3, h4⟩ := unA_run (P := C.P) (h1 some) (hρ x).1
    refine vals (v := v) ?_ ⟨.dat h4, trivial⟩
    unfold execOp
    rw [hop]
    simp only [Sem.run_bind, h3, Result.andThen_ok, Sem.run_pure]
  case convert src dst x =>
    obtain ⟨dd, h1, h2⟩ := convA_any (γ := Dat) h
    cases h2
    obtain ⟨u, w', g', h3, h4⟩ := conv_run hI (hρ x).1 (h1 some) o.dst
    refine wp_value (w' := w') (v := u) ?_ ⟨g', h4⟩
    unfold execOp
    rw [hop]
    simp only [Sem.run_bind, h3, Result.andThen_ok, Sem.run_pure]
  case makeFunc fn first caps =>
    obtain ⟨h1, h2⟩ := cond_none rfl h
    cases h2
    simp only [Bool.and_eq_true] at h1
    refine vals (v := .func fn (first.map a.eval) (caps.map a.eval)) ?_ ⟨.b (.clo (by simp) (by simp) (fun i c v hc hv => ?_) (fun i c v hc hv => ?_)), trivial⟩
    · unfold execOp
      rw [hop]
      rfl
    · obtain ⟨y, hy, rfl⟩ := getElem_map hc
      obtain ⟨z, hz, rfl⟩ := getElem_map hy
      rw [Array.getElem?_map, ← Array.getElem?_toList, hz] at hv
      cases hv
      exact strip_rep (hρ z).1 (handsAll_get h1.1 hy)
    · obtain ⟨y, hy, rfl⟩ := getElem_map hc
      obtain ⟨z, hz, rfl⟩ := getElem_map hy
      rw [Array.getElem?_map, ← Array.getElem?_toList, hz] at hv
      cases hv
      exact strip_rep (hρ z).1 (handsAll_get h1.2 hy)
  case makeSlice t l c =>
    split at h
    · rename_i e dt lv cv hu hdst hl hc
      split at h
      · rename_i i zs hi hz
        obtain ⟨h3, h4⟩ := cond_none rfl h
        simp only [Bool.and_eq_true, decide_eq_true_eq, beq_iff_eq] at h3
        obtain ⟨⟨⟨⟨h3, h5⟩, h6⟩, h7⟩, h8⟩ := h3
        cases h4
        obtain ⟨v, w', g', h9, h10⟩ := makeSlice_run hI hu hi hz h3 h5 h6 h7 dt (8 * dt)
        have e1 : a.eval l = .int .i64 lv := by
          have := (hρ l).1
          rw [hl] at this
          generalize a.eval l = u at this
          cases this.dat_inv; rfl
        have e2 : a.eval c = .int .i64 cv := by
          have := (hρ c).1
          rw [hc] at this
          generalize a.eval c = u at this
          cases this.dat_inv; rfl
        rw [hdst]
        refine wp_value (w' := w') ?_ ⟨g', by rw [hdst]; exact h10⟩
        unfold execOp
        rw [hop]
        simp only [e1, e2, Sem.run_bind, h9, Result.andThen_ok, Sem.run_pure]
      · cases h
    · cases h
  case slice t x lo hi mx =>
    split at h
    · rename_i b hu hx
      have e1 : a.eval x = .string b := by
        have := (hρ x).1
        rw [hx] at this
        generalize a.eval x = u at this
        cases this.dat_inv; rfl
      obtain ⟨l, h1, hl⟩ := boundA_some hρ h
      obtain ⟨n, h2, hn⟩ := boundA_some hρ h1
      obtain ⟨h3, h4⟩ := cond_none rfl h2
      simp only [Bool.and_eq_true, decide_eq_true_eq, Option.isNone_iff_eq_none] at h3
      obtain ⟨⟨⟨h3, h5⟩, h6⟩, rfl⟩ := h3
      cases h4
      have hb := sliceBounds_two (P := C.P) (w := w) (isS := false) (len := b.size) (cap := b.size) (ρ := a.eval) h3 h5 h6 hl hn
      refine vals (v := .string (b.extract l.toNat n.toNat)) ?_ ⟨.dat (.str _), trivial⟩
      unfold execOp
      rw [hop]
      simp [Instr.sliceAt, Instr.slice, run_underlying hu, e1, hb]
    · rename_i e es hu hx
      have hrep := (hρ x).1
      rw [hx] at hrep
      have hrep := hrep.dat_inv
      obtain ⟨bs, n0, cap, e1⟩ : ∃ bs n cap, a.eval x = .slice bs n cap := by
        generalize a.eval x = u at hrep
        cases hrep with
        | nilS => exact ⟨_, _, _, rfl⟩
        | sl => exact ⟨_, _, _, rfl⟩
      rw [e1] at hrep
      have hnn : es.length = n0 ∧ n0 ≤ cap := by
        cases hrep with
        | nilS => exact ⟨rfl, Nat.le_refl _⟩
        | sl vs hn hc => exact ⟨hn, hc⟩
      obtain ⟨hnn, hcap⟩ := hnn
      obtain ⟨l, h1, hl⟩ := boundA_some hρ h
      obtain ⟨n, h2, hn⟩ := boundA_some hρ h1
      obtain ⟨m, h2', hm⟩ := boundA_some hρ h2
      split at h2'
      · rename_i z hz
        obtain ⟨h3, h4⟩ := cond_none rfl h2'
        simp only [Bool.and_eq_true, decide_eq_true_eq, Bool.or_eq_true, Option.isNone_iff_eq_none] at h3
        obtain ⟨⟨⟨⟨h3, h5⟩, h6⟩, h7⟩, h8⟩ := h3
        cases h4
        have hsz : l.toNat ≠ 0 → ∀ e ∈ es, e.length = z := by
          intro hl0
          rcases h8 with h8 | h8
          · rcases hl with ⟨_, rfl⟩ | ⟨k, ol, h9, _⟩
            · simp at hl0
            · rw [h8] at h9; cases h9
          · exact sized_iff.1 h8
        rw [hnn] at hn
        by_cases hmx : mx = none
        · subst hmx
          have hb := sliceBounds_two (P := C.P) (w := w) (isS := true) (len := n0) (cap := cap) (ρ := a.eval) h3 h5 (by omega) hl hn
          have hsub := rep_sub (size := z) hrep (l := l.toNat) (h := n.toNat) (m := cap) (by omega) (by omega) (by omega) (Nat.le_refl _) hsz
          refine vals (v := .slice (if cap = l.toNat then bs else bs.map (·.add (l.toNat * z))) (n.toNat - l.toNat) (cap - l.toNat)) ?_ ⟨.dat hsub, trivial⟩
          unfold execOp
          rw [hop]
          simp [Instr.sliceAt, Instr.slice, run_underlying hu, e1, hb, run_sizeOf hz]
        · rcases h7 with h7 | ⟨h7, rfl⟩
          · exact absurd h7 hmx
          · rcases hm with ⟨h9, _⟩ | ⟨km, om, rfl, hom⟩
            · exact absurd h9 hmx
            · rcases hn with ⟨h9, _⟩ | ⟨kh, oh, rfl, hoh⟩
              · rw [h9] at h7; cases h7
              · have hb := sliceBounds_three (P := C.P) (w := w) (len := n0) (cap := cap) (ρ := a.eval) h3 h5 (by omega) hl hoh hom
                have hsub := rep_sub (size := z) hrep (l := l.toNat) (h := m.toNat) (m := m.toNat) (by omega) (by omega) (Nat.le_refl _) (by omega) hsz
                refine vals (v := .slice (if m.toNat = l.toNat then bs else bs.map (·.add (l.toNat * z))) (m.toNat - l.toNat) (m.toNat - l.toNat)) ?_ ⟨.dat hsub, ⟨_, _, rfl⟩⟩
                unfold execOp
                rw [hop]
                simp [Instr.sliceAt, Instr.slice, run_underlying hu, e1, hb, run_sizeOf hz]
      · cases h2'
    · cases h
  case fieldAddr t x i =>
    split at h
    · rename_i fd hfd
      have hfs : ∃ fs, C.P.underlying t = some (.struct fs) ∧ fs[i]? = some fd := by
        unfold fieldOf at hfd
        split at hfd
        · exact ⟨_, by assumption, hfd⟩
        · cases hfd
      obtain ⟨fs, hu, hfd⟩ := hfs
      split at h
      · rename_i n hn
        cases h0 : (n == 0) with
        | true => rw [h0] at h; cases h
        | false =>
          rw [h0, cond_false] at h
          have h0 : n ≠ 0 := by simpa using h0
          have hrun : ∀ ad : Addr, a.eval x = .pointer (some ad) → (execOp a.eval o).run C.P w = .ok (.value (.pointer (some (ad.add fd.offset)))) w := by
            intro ad had
            unfold execOp
            rw [hop]
            simp [Instr.fieldAt, run_underlying hu, hfd, had, Instr.sureAddr, fieldPlace, run_sizeOf hn, h0]
          have hr := (hρ x).1
          split at h
          · rename_i u off hx
            cases h
            rw [hx] at hr
            obtain ⟨b, hb, hv⟩ := hr.loc_inv
            refine vals (hrun _ hv) ?_
            rw [add_eq rfl]
            exact ⟨.loc hb, trivial⟩
          · rename_i cs hx
            cases h
            rw [hx] at hr
            obtain ⟨ad, vs, hv, hs, hcell, hrr⟩ := hr.imm_inv
            refine vals (hrun _ hv) ⟨.b (.imm (fun k => vs (fd.offset + k)) (add_spot hs _) (fun k hk => ?_) (fun k d hd => ?_)), trivial⟩
            · rw [List.length_drop] at hk
              obtain ⟨h1, h2⟩ := hcell (fd.offset + k) (by omega)
              rw [add_add, add_block, add_off]
              exact ⟨h1, by omega⟩
            · rw [List.getElem?_drop] at hd
              exact hrr _ d hd
          · rename_i u off hx
            cases h
            rw [hx] at hr
            obtain ⟨b, hb, hv⟩ := hr.ref_inv
            refine vals (hrun _ hv) ?_
            rw [add_eq rfl]
            exact ⟨.b (.ref hb), trivial⟩
          · cases h
      · cases h
    · cases h
  case field t x i =>
    split at h
    · split at h
      · rename_i fd cs hfd hx _ _ n dd hn huf
        have hfs : ∃ fs, C.P.underlying t = some (.struct fs) ∧ fs[i]? = some fd := by
          unfold fieldOf at hfd
          split at hfd
          · exact ⟨_, by assumption, hfd⟩
          · cases hfd
        obtain ⟨fs, hu, hfd⟩ := hfs
        have hr := (hρ x).1
        rw [hx] at hr
        obtain ⟨vs, hv, hl, hrr⟩ := hr.agg_inv
        cases ha : isAggT C.P fd.type with
        | true =>
          rw [ha, cond_true] at h
          obtain ⟨h1, h2⟩ := cond_none rfl h
          have h1 : fd.offset + n ≤ cs.length := by simpa using h1
          cases h2
          refine vals (v := .agg (vs.extract fd.offset (fd.offset + n))) ?_ ⟨.agg (by simp; omega) (fun k c v hc hv' => ?_), trivial⟩
          · unfold execOp
            rw [hop]
            have := run_part (P := C.P) (w := w) (vs := vs) (off := fd.offset) (n := n) huf (fun _ => hn) (fun h => by rw [ha] at h; cases h) (by omega)
            simp only [valOf, ha, if_true] at this
            simp [Instr.field, run_underlying hu, hfd, hv, Go.asAgg, this]
          · rw [List.getElem?_take, List.getElem?_drop] at hc
            split at hc
            · rw [Array.getElem?_extract] at hv'
              split at hv'
              · exact hrr _ c v hc hv'
              · cases hv'
            · cases hc
        | false =>
          rw [ha, cond_false] at h
          split at h
          · rename_i c hc
            cases h
            have hlt : fd.offset < vs.size := by rw [← hl]; exact (List.getElem?_eq_some_iff.1 hc).1
            have hvs : vs[fd.offset]? = some vs[fd.offset] := Array.getElem?_eq_getElem hlt
            obtain ⟨h3, h4⟩ := hrr _ c _ hc hvs
            refine vals (v := vs[fd.offset]) ?_ ⟨.dat h3, h4⟩
            unfold execOp
            rw [hop]
            have : (part fd.type vs fd.offset).run C.P w = .ok vs[fd.offset] w := by
              simp [part, run_isAgg huf, ha, hvs]
            simp [Instr.field, run_underlying hu, hfd, hv, Go.asAgg, this]
          · cases h
      · cases h
    · cases h
  case indexAddr t x i =>
    split at h
    · rename_i e es k n hu hx hi
      have hri := (hρ i).1
      rw [hi] at hri
      have ei : a.eval i = .int k n := by
        generalize a.eval i = u at hri
        cases hri.dat_inv; rfl
      have hr := (hρ x).1
      rw [hx] at hr
      have hr := hr.dat_inv
      split at h
      · rename_i z hz
        obtain ⟨c, h1, h2⟩ := elemAt_any (γ := List Dat) h
        obtain ⟨h3, h4⟩ := cond_none rfl h2
        simp only [beq_iff_eq] at h3
        cases h4
        have hc := h1 some
        unfold elemAt at hc
        obtain ⟨h5, h6⟩ := cond_none rfl hc
        have h5 : 0 ≤ n := by simpa using h5
        split at h6
        · rename_i c' hc'
          cases h6
          have hlt : n.toNat < es.length := (List.getElem?_eq_some_iff.1 hc').1
          generalize hv : a.eval x = v at hr
          cases hr with
          | nilS => simp at hlt
          | sl vs hn hcap hm hsp he hcell hrr =>
            rename_i ad n0 cap size
            have hsz : size = z := by rw [← he _ (List.mem_of_getElem? hc'), h3]
            subst hsz
            refine vals (v := .pointer (some (ad.add (n.toNat * size)))) ?_ ⟨.b (.imm (fun k => vs (n.toNat * size + k)) (add_spot (hsp (by omega)) _) (fun k hk => ?_) (fun k d hd => ?_)), trivial⟩
            · unfold execOp
              rw [hop]
              simp [Instr.indexAt, asIntOf, ei, hv, run_underlying hu, show 0 ≤ n ∧ n < (n0 : Int) from ⟨h5, by omega⟩, run_sizeOf hz]
            · rw [h3] at hk
              obtain ⟨h7, h8⟩ := hcell (n.toNat * size + k) (idx_lt (by omega) hk)
              rw [add_add, add_block, add_off]
              exact ⟨h7, by omega⟩
            · exact hrr n.toNat k c d hc' hd
        · cases h6
      · cases h
    · rename_i len e p k n hu hi
      have hri := (hρ i).1
      rw [hi] at hri
      have ei : a.eval i = .int k n := by
        generalize a.eval i = u at hri
        cases hri.dat_inv; rfl
      split at h
      · rename_i z hz
        obtain ⟨h3, h4⟩ := cond_none rfl h
        simp only [Bool.and_eq_true, decide_eq_true_eq] at h3
        have hrun : ∀ ad : Addr, a.eval x = .pointer (some ad) → (execOp a.eval o).run C.P w = .ok (.value (.pointer (some (ad.add (n.toNat * z))))) w := by
          intro ad had
          unfold execOp
          rw [hop]
          simp [Instr.indexAt, asIntOf, ei, had, Instr.sureAddr, run_underlying hu, h3, run_sizeOf hz]
        have hr := (hρ x).1
        split at h4
        · rename_i u off hx
          rw [splitN_in (Nat.zero_le _) (by omega)] at h4
          cases h4
          rw [hx] at hr
          obtain ⟨b, hb, hv⟩ := hr.loc_inv
          refine vals (hrun _ hv) ?_
          rw [add_eq rfl]
          exact ⟨.loc hb, trivial⟩
        · rename_i cs hx
          cases h4
          rw [hx] at hr
          obtain ⟨ad, vs, hv, hs, hcell, hrr⟩ := hr.imm_inv
          refine vals (hrun _ hv) ⟨.b (.imm (fun k => vs (n.toNat * z + k)) (add_spot hs _) (fun k hk => ?_) (fun k d hd => ?_)), trivial⟩
          · rw [List.length_drop] at hk
            obtain ⟨h1, h2⟩ := hcell (n.toNat * z + k) (by omega)
            rw [add_add, add_block, add_off]
            exact ⟨h1, by omega⟩
          · rw [List.getElem?_drop] at hd
            exact hrr _ d hd
        · rename_i u off hx
          cases h4
          rw [hx] at hr
          obtain ⟨b, hb, hv⟩ := hr.ref_inv
          refine vals (hrun _ hv) ?_
          rw [add_eq rfl]
          exact ⟨.b (.ref hb), trivial⟩
        · cases h4
      · cases h
    · cases h
  case index t x i =>
    split at h
    · rename_i b k n hu hx hi
      have ei : a.eval i = .int k n := by
        have := (hρ i).1
        rw [hi] at this
        generalize a.eval i = u at this
        cases this.dat_inv; rfl
      have ex : a.eval x = .string b := by
        have := (hρ x).1
        rw [hx] at this
        generalize a.eval x = u at this
        cases this.dat_inv; rfl
      obtain ⟨c, h1, h2⟩ := byteAt_any (γ := UInt8) h
      cases h2
      have hc := h1 some
      unfold byteAt at hc
      obtain ⟨h5, h6⟩ := cond_none rfl hc
      have h5 : 0 ≤ n := by simpa using h5
      split at h6
      · rename_i c' hc'
        cases h6
        refine vals (v := .int .u8 c.toNat) ?_ ⟨.dat (.int _ _), trivial⟩
        have hlt : n.toNat < b.size := by
          have := (List.getElem?_eq_some_iff.1 hc').1
          rw [Array.length_toList] at this
          exact this
        have hb : b[n.toNat]? = some c := by
          rw [Array.getElem?_toList] at hc'
          rw [← hc']
          show (if h : n.toNat < b.size then some b[n.toNat] else none) = _
          rw [dif_pos hlt]
          have := Array.getElem?_eq_getElem (xs := b.data) hlt
          rw [this]
          rfl
        unfold execOp
        rw [hop]
        simp [Instr.index, asIntOf, ei, ex, run_underlying hu, h5, hb]
      · cases h6
    · rename_i len e cs k n hu hx hi
      have ei : a.eval i = .int k n := by
        have := (hρ i).1
        rw [hi] at this
        generalize a.eval i = u at this
        cases this.dat_inv; rfl
      have hr := (hρ x).1
      rw [hx] at hr
      obtain ⟨vs, hv, hl, hrr⟩ := hr.agg_inv
      split at h
      · rename_i z dd hz hue
        obtain ⟨h3, h4⟩ := cond_none rfl h
        simp only [Bool.and_eq_true, decide_eq_true_eq, Bool.not_eq_true'] at h3
        obtain ⟨⟨h3, h5⟩, ha⟩ := h3
        split at h4
        · rename_i c hc
          have h4 := (shpA_same h4).1
          cases h4
          have hlt : n.toNat * z < vs.size := by rw [← hl]; exact (List.getElem?_eq_some_iff.1 hc).1
          have hvs : vs[n.toNat * z]? = some vs[n.toNat * z] := Array.getElem?_eq_getElem hlt
          obtain ⟨h7, h8⟩ := hrr _ c _ hc hvs
          refine vals (v := vs[n.toNat * z]) ?_ ⟨.dat h7, trivial⟩
          have : (part e vs (n.toNat * z)).run C.P w = .ok vs[n.toNat * z] w := by
            simp [part, run_isAgg hue, ha, hvs]
          unfold execOp
          rw [hop]
          simp [Instr.index, asIntOf, ei, hv, run_underlying hu, h3, h5, run_sizeOf hz, this]
        · cases h4
      · cases h
    · cases h
  case extract x i =>
    split at h
    · rename_i vs hx
      split at h
      · rename_i e he
        cases h
        have hr := (hρ x).1
        rw [hx] at hr
        obtain ⟨us, hv, hl, hrr⟩ := hr.tup_inv
        have hlt : i < us.size := by rw [← hl]; exact (List.getElem?_eq_some_iff.1 he).1
        have hus : us[i]? = some us[i] := Array.getElem?_eq_getElem hlt
        obtain ⟨h1, h2⟩ := hrr i e _ he hus
        refine vals (v := us[i]) ?_ ⟨.b h1, h2⟩
        unfold execOp
        rw [hop]
        simp [Instr.extract, hv, hus]
      · cases h
    · cases h
  case call c =>
    obtain ⟨callee, args, argTypes⟩ := c
    have argsOne : ∀ {x : Operand}, args.toList = [x] → args = #[x] := fun h => by rw [← list_one h]
    have argsTwo : ∀ {x y : Operand}, args.toList = [x, y] → args = #[x, y] := fun h => by
      have := congrArg List.toArray h
      simpa using this
    split at h
    · -- len
      rename_i hcal
      split at h
      · rename_i x hargs
        obtain rfl : callee = .builtin .len := hcal
        obtain rfl := argsOne hargs
        obtain ⟨dd, h1, h2⟩ := lenA_any (γ := Dat) h
        cases h2
        have h1 := h1 some
        have hr := (hρ x).1
        unfold lenA at h1
        split at h1
        · rename_i b hu hx
          rw [hx] at hr
          have hr := hr.dat_inv
          cases h1
          simp only [Option.bind_eq_some_iff] at hu
          obtain ⟨t, ht, hu⟩ := hu
          refine vals (v := .int .i64 b.size) ?_ ⟨.dat (.int _ _), trivial⟩
          generalize hv : a.eval x = v at hr
          cases hr
          unfold execOp
          rw [hop]
          simp [resolve, invoke, builtin, Builtin.len_, ht, run_underlying hu, hv, goInt]
        · rename_i e es hu hx
          rw [hx] at hr
          have hr := hr.dat_inv
          cases h1
          simp only [Option.bind_eq_some_iff] at hu
          obtain ⟨t, ht, hu⟩ := hu
          refine vals (v := .int .i64 es.length) ?_ ⟨.dat (.int _ _), trivial⟩
          generalize hv : a.eval x = v at hr
          unfold execOp
          rw [hop]
          cases hr with
          | nilS => simp [resolve, invoke, builtin, Builtin.len_, ht, run_underlying hu, hv, goInt]
          | sl vs hn => simp [resolve, invoke, builtin, Builtin.len_, ht, run_underlying hu, hv, goInt, hn]
        · rename_i _ n e hu
          cases h1
          simp only [Option.bind_eq_some_iff] at hu
          obtain ⟨t, ht, hu⟩ := hu
          refine vals (v := .int .i64 n) ?_ ⟨.dat (.int _ _), trivial⟩
          unfold execOp
          rw [hop]
          simp [resolve, invoke, builtin, Builtin.len_, ht, run_underlying hu, goInt]
        · cases h1
      · cases h
    · -- append
      rename_i hcal
      split at h
      · rename_i x y hargs
        obtain rfl : callee = .builtin .append := hcal
        obtain rfl := argsTwo hargs
        unfold appendA at h
        split at h
        · rename_i dt el ty hdst hu1 hu2
          simp only [Option.bind_eq_some_iff] at hu1 hu2
          obtain ⟨t1, ht1, hu1⟩ := hu1
          obtain ⟨t2, ht2, hu2⟩ := hu2
          split at h
          · rename_i i es own dy hi hx hy
            split at h
            · rename_i fs hfs
              obtain ⟨h3, h4⟩ := cond_none rfl h
              simp only [Bool.and_eq_true, decide_eq_true_eq] at h3
              obtain ⟨⟨⟨⟨h3, h5⟩, h6⟩, h7⟩, h8⟩ := h3
              have hvx : RepE w g w0.heap.size (.dat (.sl es), own) (a.eval x) := by have := hρ x; rw [hx] at this; exact this
              have hvy : Rep w g.M dy (a.eval y) := by have := (hρ y).1; rw [hy] at this; exact this.dat_inv
              have main : ∀ t', own = .id t' i.size ∨ (own = .full ∧ strictO t' = false) → o.wp C.P a w (Done C w0 M0 sm0 X0 (Dl.apply (.clr t' (.dat (.sl (es ++ fs)), .id t' i.size)) s o.dst)) Q := by
                intro t' hown
                obtain ⟨v', w', g', h9, h10⟩ := append_run (ty := o.type) hI hu1 hu2 hi hvx hvy hfs h5 h3 h7 t' hown h8 o.dst
                refine wp_value (v := v') (w' := w') ?_ ⟨g', h10⟩
                have e1 : argTypes[0]? = some t1 := ht1
                have e2 : argTypes[1]? = some t2 := ht2
                have hat : (Builtin.append_ argTypes o.type #[a.eval x, a.eval y]) = Builtin.append_ #[t1, t2] o.type #[a.eval x, a.eval y] := by
                  unfold Builtin.append_
                  rw [e1, e2]
                  rfl
                unfold execOp
                rw [hop]
                simp only [resolve, invoke, builtin, Sem.run_bind, Sem.run_pure, Result.andThen_ok]
                have hm : Array.map a.eval #[x, y] = #[a.eval x, a.eval y] := by simp
                rw [hm, hat, h9]
                rfl
              split at h4
              · rename_i t' size
                obtain ⟨h9, h10⟩ := cond_none rfl h4
                simp only [beq_iff_eq] at h9
                subst h9
                cases h10
                exact main _ (.inl rfl)
              · cases h4
                exact main _ (.inr ⟨rfl, strict8 _⟩)
              · cases h4
            · cases h
          · cases h
        · cases h
      · cases h
    · -- max
      rename_i hcal
      obtain rfl : callee = .builtin .max := hcal
      split at h
      · rename_i dd hm
        cases h
        obtain ⟨v, h1, h2⟩ := minmax_run (P := C.P) hρ (args := args) (mx := true) hm
        refine vals (v := v) ?_ ⟨.dat h2, trivial⟩
        unfold execOp
        rw [hop]
        simp only [resolve, invoke, builtin, Sem.run_bind, Sem.run_pure, Result.andThen_ok]
        have h1 := h1 o.type argTypes
        simp only [if_true] at h1
        rw [h1]
        rfl
      · cases h
    · -- min
      rename_i hcal
      obtain rfl : callee = .builtin .min := hcal
      split at h
      · rename_i dd hm
        cases h
        obtain ⟨v, h1, h2⟩ := minmax_run (P := C.P) hρ (args := args) (mx := false) hm
        refine vals (v := v) ?_ ⟨.dat h2, trivial⟩
        unfold execOp
        rw [hop]
        simp only [resolve, invoke, builtin, Sem.run_bind, Sem.run_pure, Result.andThen_ok]
        have h1 := h1 o.type argTypes
        simp only [Bool.false_eq_true, if_false] at h1
        rw [h1]
        rfl
      · cases h
    · -- a function
      rename_i fo hcal
      obtain rfl : callee = .value fo := hcal
      split at h
      · rename_i p hp
        obtain ⟨gi, rfl, hargs, hz⟩ := nilGrowOf_some hp
        obtain ⟨dt, n, hdst, hx, h0, h1, h2, h3⟩ := growA_some h
        cases h3
        have hxv : a.eval p.2 = .int .i64 n := by
          have := (hρ p.2).1
          rw [hx] at this
          generalize a.eval p.2 = u at this
          cases this.dat_inv; rfl
        obtain ⟨k, rfl⟩ : ∃ k : Nat, n = (k : Int) := ⟨n.toNat, by omega⟩
        obtain ⟨fn, hfn, hb, hcl⟩ := hC.grow gi p.1 hz k w (by simpa using h1)
        have hn : fn.name ≠ "runtime.NumGoroutine" := by simpa using hC.num gi fn hfn
        have hm : args.map a.eval = #[.slice none 0 0, .int .i64 k] := by
          obtain ⟨l⟩ := args
          simp only at hargs
          subst hargs
          have hc : a.eval (.const (.slice none 0 0)) = .slice none 0 0 := rfl
          simp only [List.map_toArray, List.map_cons, List.map_nil, hxv, hc]
        have hexec : (execOp a.eval o).run C.P w = .ok (.enter gi #[.slice none 0 0, .int .i64 k]) w := by
          unfold execOp
          rw [hop]
          simp [resolve, Act.eval, Deferred.ofValue, invoke, callFunc, hfn, hn, hb, hm]
        unfold Oper.wp
        rw [hexec, Oper.upon_enter]
        refine hcl.mono ?_
        rintro e w' (⟨rfl, rfl⟩ | ⟨cap, cur, T, rfl, rfl, q1, q2⟩)
        · obtain ⟨g', hI'⟩ := hI.keepRow (t := 8 * dt) (size := p.1.1) (es := []) (bs := none) (n := 0) .nilS (fun _ => rfl) o.dst
          exact ⟨g', hI'⟩
        · have hI1 := hI.same (w' := w.drew) rfl rfl rfl ⟨rfl, fun _ => Nat.le_succ _⟩
          obtain ⟨g', hI'⟩ := hI1.newRow (t := 8 * dt) (size := p.1.1) (n := 0) (cap := cap) (es := []) (dst := o.dst) cur T rfl (Nat.zero_le _) q1 q2 (by simp) (by simp)
          exact ⟨g', hI'⟩
      split at h
      · rename_i p hp
        obtain ⟨hfo, hargs, hz⟩ := ownArgOf_some hp
        subst hfo
        obtain ⟨fn, es, t, rs, sg', fs, u, hfn, hx, hh, hpl, ⟨hb, hnst⟩, hc, hrs, hd⟩ := ownCallA_some h
        cases hd
        obtain ⟨hv, hown⟩ := hρ p.2.1
        rw [hx] at hv hown
        have hv := hv.dat_inv
        have hn : fn.name ≠ "runtime.NumGoroutine" := by simpa using hC.num p.1.1 fn hfn
        have hbn : fn.body ≠ none := by intro e; rw [e] at hb; cases hb
        have hm : args.map a.eval = (a.eval p.2.1 :: p.2.2.map a.eval).toArray := by
          obtain ⟨l⟩ := args
          simp only at hargs
          subst hargs
          simp
        have hexec : (execOp a.eval o).run C.P w = .ok (.enter p.1.1 (a.eval p.2.1 :: p.2.2.map a.eval).toArray) w := by
          unfold execOp
          rw [hop]
          have he : a.eval (.func p.1.1) = .func (.func p.1.1) #[] #[] := rfl
          simp only [resolve, he, Deferred.ofValue, invoke, Sem.run_bind, Sem.run_pure, Result.andThen_ok, hm, Array.empty_append, Array.append_empty]
          simp [callFunc, hfn, hn, hbn]
        have hrest : ∀ (i : Nat) x v, ((p.2.2.map fun x => (s.ev C x).1).map stripA)[i]? = some x → (p.2.2.map a.eval)[i]? = some v → RepB w g.M [] x v := by
          intro i x v hx hv
          rw [List.getElem?_map, Option.map_eq_some_iff] at hx
          obtain ⟨y, hy, rfl⟩ := hx
          have hy0 := hy
          rw [List.getElem?_map, Option.map_eq_some_iff] at hy
          obtain ⟨q, hq, rfl⟩ := hy
          rw [List.getElem?_map, hq] at hv
          cases hv
          exact plainB (strip_rep (hρ q).1 (handsAll_get hh hy0)) (by rw [plain_strip]; exact plainL_get hpl hy0)
        obtain ⟨X, hG, hX⟩ : ∃ X, Given w g.M p.1.2 (a.eval p.2.1) X ∧ ∀ b, X b = true → g.R b = .own t ∧ (w0.heap.size ≤ b ∨ g.gv b = true) := by
          obtain ⟨_, ⟨ad, n, e, _⟩ | ⟨b, n, cap, cur, T, q1, q2, q3, q4, q5, q6, q7, q8⟩⟩ := hown
          · exact ⟨noX, .inl ⟨ad, n, e, rfl⟩, fun b hb => by cases hb⟩
          · refine ⟨fun k => k == b, .inr ⟨b, n, cap, cur, T, q1, q2, q3, q4, q5, q6, rfl⟩, fun k hk => ?_⟩
            have : k = b := by simpa using hk
            rw [this]
            exact ⟨q7, q8⟩
        have hlow : ∀ i o, C.low i = some o → X i = false := by
          intro i o ho
          cases hxi : X i with
          | false => rfl
          | true =>
            exfalso
            have hlt : i < w0.heap.size := (Array.getElem?_eq_some_iff.1 (hI.low.1 i o ho).1).1
            rcases (hX i hxi).2 with h3 | h3
            · omega
            · rw [hI.low.2.2.2, hI.low.2.2.1 i o ho] at h3; cases h3
        unfold Oper.wp
        rw [hexec, Oper.upon_enter]
        refine (hcall.own p.1.1 p.1.2 hz es _ rs sg' hc w g.M _ (p.2.2.map a.eval) X (by simp) hv hG hrest hI.globOk hlow).mono ?_
        rintro e w' ⟨v, M', rfl, hA, hres⟩
        obtain ⟨h4, h5⟩ := hres fs u hrs
        obtain ⟨g', hI'⟩ := hI.afterOwn (t := t) (z := p.1.2) hX hA h4 h5 hnst o.dst
        exact ⟨g', hI'⟩
      split at h
      · rename_i fi first caps hfo
        have hr := (hρ fo).1
        rw [hfo] at hr
        obtain ⟨vf, vc, hv, hl1, hl2, hf1, hf2⟩ := hr.clo_inv
        have h := (cond_any h).2
        refine call_wp (vs := vf ++ args.map a.eval ++ vc) hcall hI h (by simp [hl1, hl2]) (fun i x v hx hvv => ?_) (fun fn hfn hb => ?_)
        · have hll : (args.toList.map fun x => (s.ev C x).1).length = args.size := by simp
          by_cases h1 : i < first.length
          · rw [List.getElem?_append_left (by simp; omega), List.getElem?_append_left h1] at hx
            rw [Array.getElem?_append_left (by simp; omega), Array.getElem?_append_left (by omega)] at hvv
            exact .b (hf1 i x v hx hvv)
          · by_cases h2 : i < first.length + args.size
            · rw [List.getElem?_append_left (by simp; omega), List.getElem?_append_right (by omega)] at hx
              rw [Array.getElem?_append_left (by simp; omega), Array.getElem?_append_right (by omega)] at hvv
              obtain ⟨y, hy, rfl⟩ := getElem_map hx
              rw [Array.getElem?_map, ← hl1, ← Array.getElem?_toList, hy] at hvv
              cases hvv
              exact (hρ y).1
            · rw [List.getElem?_append_right (by simp; omega)] at hx
              rw [Array.getElem?_append_right (by simp; omega)] at hvv
              simp only [List.length_append, List.length_map, Array.length_toList, Array.size_append, Array.size_map] at hx hvv
              rw [hl1] at hx
              exact .b (hf2 _ x v hx hvv)
        · have hn : fn.name ≠ "runtime.NumGoroutine" := by simpa using hC.num fi fn hfn
          have hb : fn.body ≠ none := by intro e; rw [e] at hb; cases hb
          unfold execOp
          rw [hop]
          simp [resolve, hv, Deferred.ofValue, invoke, callFunc, hfn, hn, hb]
      · cases h
    · cases h
  all_goals cases h
end
end Go.Aev

end
section
/- Operations one behind the other. -/
namespace Go.Aev

section
variable {C : Cfg} {w0 : World} {M0 : Nat → Nat} {sm0 : List Nat} {X0 : Nat → Bool} {g : Gh} {s : St} {a : Act} {w : World}
variable {β : Type} {r : β}

theorem evD_all {call : CallFn} {f : FuncId} {ns : Bool} {ev : Operand → Ent} {lo : List (Option (List Ent))} {sg : Sig} {o : Oper} {K : Dl → Option β} (h : evD C call f ns ev lo sg o K = some r) :
    ∃ d, evD C call f ns ev lo sg o some = some d ∧ K d = some r ∧ ∀ (γ : Type) (G : Dl → Option γ), evD C call f ns ev lo sg o G = G d := by
  obtain ⟨d, h1, h2⟩ := evD_any (γ := Dl) h
  have h3 := h1 some
  refine ⟨d, h3, h2, fun γ G => ?_⟩
  obtain ⟨d', h4, h5⟩ := evD_any (γ := γ) h3
  cases h5
  exact h4 G

theorem evOp_all {call : CallFn} {f : FuncId} {ns : Bool} {o : Oper} {K : St → Option β} (h : evOp C call f ns s o K = some r) :
    ∃ d, evD C call f ns (s.ev C) s.lo s.sg o some = some d ∧ K (d.apply s o.dst) = some r ∧ ∀ (γ : Type) (G : St → Option γ), evOp C call f ns s o G = G (d.apply s o.dst) := by
  obtain ⟨d, h1, h2, h3⟩ := evD_all h
  exact ⟨d, h1, h2, fun γ G => h3 γ _⟩

theorem set_same {α : Type} {l : List α} {i : Nat} {x : α} (h : l[i]? = some x) : l.set i x = l := by
  apply List.ext_getElem?
  intro j
  rw [List.getElem?_set]
  by_cases hj : i = j
  · subst hj
    have := (List.getElem?_eq_some_iff.1 h).1
    rw [if_pos rfl, if_pos this, h]
  · rw [if_neg hj]

/-- is the operation carried out? what decides it must be known -/
def wantedA (ops : Array Oper) (s : St) (o : Oper) : Option Bool :=
  match o.guard with
  | none => some true
  | some (j, want) =>
    match (ops[j]?).bind (·.dst) with
    | none => some false
    | some d =>
      match s.tm[d]? with
      | some (.dat (.bool b), _) => some (b == want)
      | some (.undef, _) => some false
      | _ => none

/-- one operation, without what comes behind -/
def stepA (C : Cfg) (call : CallFn) (f : FuncId) (ns : Bool) (ops : Array Oper) (s : St) (o : Oper) : Option St :=
  match wantedA ops s o with
  | some true => (evD C call f ns (s.ev C) s.lo s.sg o some).map fun d => d.apply s o.dst
  | some false => some (s.put o.dst (.undef, .none))
  | none => none

theorem evOper_all {call : CallFn} {f : FuncId} {ns : Bool} {ops : Array Oper} {o : Oper} {K : St → Option β} (h : evOper C call f ns ops s o K = some r) :
    ∃ s', stepA C call f ns ops s o = some s' ∧ K s' = some r ∧ ∀ (γ : Type) (G : St → Option γ), evOper C call f ns ops s o G = G s' := by
  unfold evOper at h
  split at h
  · rename_i hg
    obtain ⟨d, h1, h2, h3⟩ := evOp_all h
    exact ⟨_, by simp [stepA, wantedA, hg, h1], h2, fun γ G => by simp only [evOper, hg]; exact h3 γ G⟩
  · rename_i j want hg
    split at h
    · rename_i hj
      exact ⟨_, by simp only [stepA, wantedA, hg, hj], h, fun γ G => by simp only [evOper, hg, hj]⟩
    · rename_i d hj
      split at h
      · rename_i b ow hd
        have hput : ∀ b', b' = b → s.put (some d) (.dat (.bool b'), ow) = s := by
          rintro b' rfl
          simp only [St.put]
          rw [set_same hd]
        cases b with
        | true =>
          simp only [cond_true] at h
          rw [hput true rfl] at h
          cases want with
          | true =>
            simp only [cond_true] at h
            obtain ⟨dd, h1, h2, h3⟩ := evOp_all h
            refine ⟨_, by simp [stepA, wantedA, hg, hj, hd, h1], h2, fun γ G => ?_⟩
            simp only [evOper, hg, hj, hd, cond_true]
            rw [hput true rfl]
            exact h3 γ G
          | false =>
            simp only [cond_false] at h
            refine ⟨_, by simp only [stepA, wantedA, hg, hj, hd]; rfl, h, fun γ G => ?_⟩
            simp only [evOper, hg, hj, hd, cond_true, cond_false]
            rw [hput true rfl]
        | false =>
          simp only [cond_false] at h
          rw [hput false rfl] at h
          cases want with
          | true =>
            simp only [cond_true] at h
            refine ⟨_, by simp only [stepA, wantedA, hg, hj, hd]; rfl, h, fun γ G => ?_⟩
            simp only [evOper, hg, hj, hd, cond_true, cond_false]
            rw [hput false rfl]
          | false =>
            simp only [cond_false] at h
            obtain ⟨dd, h1, h2, h3⟩ := evOp_all h
            refine ⟨_, by simp [stepA, wantedA, hg, hj, hd, h1], h2, fun γ G => ?_⟩
            simp only [evOper, hg, hj, hd, cond_false]
            rw [hput false rfl]
            exact h3 γ G
      · rename_i ow hd
        exact ⟨_, by simp only [stepA, wantedA, hg, hj, hd], h, fun γ G => by simp only [evOper, hg, hj, hd]⟩
      · cases h

theorem wantedA_sound (hI : Inv C w0 M0 sm0 X0 g s a w) {ops : Array Oper} {o : Oper} {b : Bool} (h : wantedA ops s o = some b) : Region.wanted o (yielded ops a.tmps) = b := by
  unfold wantedA at h
  unfold Region.wanted
  split at h
  · rename_i hg
    cases h
    simp only [hg]
  · rename_i j want hg
    simp only [hg]
    split at h
    · rename_i hj
      cases h
      simp [yielded, hj]
    · rename_i d hj
      split at h
      · rename_i b' ow hd
        have hlt : d < a.tmps.size := by rw [hI.tsize]; exact (List.getElem?_eq_some_iff.1 hd).1
        have hv := Array.getElem?_eq_getElem hlt
        have hr := (hI.tm d _ _ hd hv).1
        generalize a.tmps[d] = u at hv hr
        cases hr.dat_inv
        cases h
        simp [yielded, hj, hv]
      · rename_i ow hd
        cases h
        have hlt : d < a.tmps.size := by rw [hI.tsize]; exact (List.getElem?_eq_some_iff.1 hd).1
        have hv := Array.getElem?_eq_getElem hlt
        have hr := (hI.tm d _ _ hd hv).1
        generalize a.tmps[d] = u at hv hr
        have : u = Go.undef := by
          cases hr with
          | b h => cases h
          | undef => rfl
        subst this
        simp [yielded, hj, hv, undef]
      · cases h

theorem stepA_sound {call : CallFn} {f : FuncId} {ns : Bool} {ops : Array Oper} {o : Oper} {i : Nat} {s' : St} {K : Act → World → Prop} {Q : Exit → Act → World → Prop} (hC : CfgOk C) (hcall : CallOK C call)
    (hI : Inv C w0 M0 sm0 X0 g s a w) (hi : ops[i]? = some o) (h : stepA C call f ns ops s o = some s') (hK : ∀ a' w', Done C w0 M0 sm0 X0 s' a' w' → K a' w') : wpOp C.P ops Q i K a w := by
  unfold stepA at h
  unfold wpOp
  rw [hi]
  show (if Region.wanted o (yielded ops a.tmps) = true then o.wp C.P a w K Q ∨ (o.asks C.P a w ∧ LetsOut Q) else K (a.put o.dst undef) w)
  split at h
  · rename_i hw
    rw [wantedA_sound hI hw]
    simp only [if_true]
    rw [Option.map_eq_some_iff] at h
    obtain ⟨d, hd, rfl⟩ := h
    exact .inl (Oper.wp_mono hK (evD_sound hC hcall hI hd))
  · rename_i hw
    rw [wantedA_sound hI hw]
    cases h
    simp only [Bool.false_eq_true, if_false]
    exact hK _ _ ⟨g, hI.put (e := (.undef, .none)) ⟨.undef, trivial⟩ o.dst⟩
  · cases h

/-- operations in the order of the text -/
def stepsA (C : Cfg) (call : CallFn) (f : FuncId) (ops : Array Oper) (ns : Nat → Bool) : List Nat → St → Option St
  | [], s => some s
  | i :: l, s => match ops[i]? with
    | some o => (stepA C call f (ns i) ops s o).bind (stepsA C call f ops ns l)
    | none => none

theorem evOps_all {call : CallFn} {f : FuncId} {ns : Nat → Bool} {ops : Array Oper} : ∀ {l : List Oper} {i : Nat} {s : St} {β : Type} {K : St → Option β} {r : β}, (∀ k, k < l.length → ops[i + k]? = l[k]?) → evOps C call f ops ns i l s K = some r →
    ∃ s', stepsA C call f ops ns ((List.range l.length).map (i + ·)) s = some s' ∧ K s' = some r ∧ ∀ (γ : Type) (G : St → Option γ), evOps C call f ops ns i l s G = G s'
  | [], i, s, β, K, r, _, h => ⟨s, rfl, h, fun γ G => rfl⟩
  | o :: l, i, s, β, K, r, hl, h => by
    simp only [evOps] at h
    obtain ⟨s1, h1, h2, h3⟩ := evOper_all h
    obtain ⟨s2, h4, h5, h6⟩ := evOps_all (l := l) (i := i + 1) (fun k hk => by
      have := hl (k + 1) (by simpa using hk)
      simpa [show i + (k + 1) = i + 1 + k by omega] using this) h2
    refine ⟨s2, ?_, h5, fun γ G => ?_⟩
    · rw [List.length_cons, List.range_succ_eq_map, List.map_cons, List.map_map]
      simp only [stepsA, Nat.add_zero]
      have h0 : ops[i]? = some o := by simpa using hl 0 (by simp)
      rw [h0]
      simp only [h1, Option.bind_some]
      rw [show ((i + ·) ∘ Nat.succ) = (i + 1 + ·) from by funext k; simp [Nat.add_assoc, Nat.add_comm 1 k]]
      exact h4
    · simp only [evOps]
      rw [h3]
      exact h6 γ G

theorem stepsA_sound {call : CallFn} {f : FuncId} {ns : Nat → Bool} {ops : Array Oper} {Q : Exit → Act → World → Prop} (hC : CfgOk C) (hcall : CallOK C call) {s' : St} (hQ : ∀ a' w', Done C w0 M0 sm0 X0 s' a' w' → Q .normal a' w') :
    ∀ {l : List Nat} {s : St} {a : Act} {w : World}, stepsA C call f ops ns l s = some s' → Done C w0 M0 sm0 X0 s a w → wpOps C.P ops Q l a w
  | [], s, a, w, h, hD => by cases h; exact hQ a w hD
  | i :: l, s, a, w, h, ⟨g, hI⟩ => by
    simp only [stepsA] at h
    split at h
    · rename_i o ho
      simp only [Option.bind_eq_some_iff] at h
      obtain ⟨s1, h1, h2⟩ := h
      rw [wpOps_cons]
      exact stepA_sound hC hcall hI ho h1 fun a' w' hD => stepsA_sound hC hcall hQ h2 hD
    · cases h

end
end Go.Aev

end
section
/- What an operation looks at. -/
namespace Go.Aev

section
variable {C : Cfg} {call : CallFn} {f : FuncId} {ns : Bool}

theorem fillA_congr {ev ev' : Operand → Ent} {place : Nat → Option (Nat × Nat)} : ∀ {parts : List (Nat × Operand)} {cs : List (Dat × Own)}, (∀ p ∈ parts, ev' p.2 = ev p.2) → fillA ev' place cs parts = fillA ev place cs parts
  | [], cs, _ => rfl
  | (i, x) :: rest, cs, h => by
    have hx := h (i, x) (by simp)
    simp only at hx
    unfold fillA
    rw [hx]
    split
    · congr 1
      exact fillA_congr fun p hp => h p (by simp [hp])
    · rfl

theorem boundA_congr {β : Type} {ev ev' : Operand → Ent} {x : Option Operand} {d : Int} {F : Int → Option β} (h : ∀ o, x = some o → ev' o = ev o) : boundA ev' x d F = boundA ev x d F := by
  unfold boundA
  cases x with
  | none => rfl
  | some o => simp only; rw [h o rfl]

theorem evD_frame {ev ev' : Operand → Ent} {lo lo' : List (Option (List Ent))} {sg sg' : Sig} {o : Oper} {d : Dl} (hk : opKind C f o.dst o.op ≤ 2) (h : evD C call f ns ev lo sg o some = some d)
    (hev : ∀ x ∈ o.op.operands.toList, ev' x = ev x) (hlo : ∀ u, (∃ t p off, o.op = .load t p ∧ (ev p).1 = .loc u off) → lo'.getD u none = lo.getD u none)
    (hdst : isNew C o.op = true → ∀ t, o.dst = some t → lo'.getD t none = lo.getD t none) (hlen : lo'.length = lo.length) (hsg : ns = true ∨ sg' = sg) : evD C call f ns ev' lo' sg' o some = some d := by
  have hnew : ∀ {cells : List Ent} {d : Dl}, newA C f ns lo sg o.dst cells some = some d → (∀ t, o.dst = some t → C.esc f t = false) → isNew C o.op = true → newA C f ns lo' sg' o.dst cells some = some d := by
    intro cells d h he hn
    unfold newA at h ⊢
    split at h
    · cases h
    · rename_i t ht
      rw [he t ht, cond_false] at h ⊢
      rw [hdst hn t ht, hlen]
      exact h
  unfold evD at h ⊢
  cases hop : o.op <;> simp only [hop, Op.operands] at h hev hlo hk ⊢
  case move x => rw [hev x (by simp)]; exact h
  case assign x => rw [hev x (by simp)]; exact h
  case pick c x y => rw [hev c (by simp), hev x (by simp), hev y (by simp)]; exact h
  case alloc t =>
    split at h
    · rename_i cs hcs
      have hesc : ∀ t, o.dst = some t → C.esc f t = false := fun t ht => by
        simp only [opKind, ht] at hk
        cases he : C.esc f t with
        | false => rfl
        | true => rw [he] at hk; simp at hk
      cases hb : (t == C.bld.1) with
      | true =>
        rw [hb, cond_true] at h
        obtain ⟨u, hu, h1, _⟩ := newB_some h
        rw [hesc u hu] at h1; cases h1
      | false =>
        rw [hb, cond_false] at h
        rw [cond_false]
        exact hnew h hesc (by rw [hop]; rfl)
    · cases h
  case box t x =>
    rw [hev x (by simp)]
    cases him : C.imm t with
    | true => rw [him, cond_true] at h; rw [cond_true]; exact h
    | false =>
    rw [him, cond_false] at h
    simp only [him, cond_false] at hk ⊢
    split at h
    · rename_i cs n h1 h2
      obtain ⟨h3, h4⟩ := cond_any h
      rw [h3, cond_true]
      refine hnew h4 (fun t ht => ?_) (by rw [hop]; simp only [isNew, him]; rfl)
      simp only [opKind, ht, him, cond_false] at hk
      cases he : C.esc f t with
      | false => rfl
      | true => rw [he] at hk; simp at hk
    · cases h
  case makeInterface t x => rw [hev x (by simp)]; exact h
  case build t parts =>
    have hp : ∀ p ∈ parts.toList, ev' p.2 = ev p.2 := fun p hp => hev p.2 (by simpa using ⟨p.1, by simpa using hp⟩)
    split at h
    · rename_i fs zs h1 h2
      split at h
      · rw [fillA_congr hp]; exact h
      · cases h
    · rename_i h1 h2
      split at h
      · rw [fillA_congr hp]; exact h
      · cases h
    · cases h
  case load t p =>
    rw [hev p (by simp)]
    unfold loadA at h ⊢
    split at h
    · rename_i size d0 hsz hu
      split at h
      · rename_i u off hp
        rw [hlo u ⟨t, p, off, rfl, hp⟩]
        exact h
      · exact h
      · rename_i i off hp
        rcases hsg with rfl | rfl
        · cases h
        · exact h
      · cases h
    · cases h
  case nilCheck x => rw [hev x (by simp)]; exact h
  case binOp op t x y u => rw [hev x (by simp), hev y (by simp)]; exact h
  case unOp op t x => rw [hev x (by simp)]; exact h
  case convert s d x => rw [hev x (by simp)]; exact h
  case makeFunc fn first caps =>
    have e1 : first.toList.map (fun x => (ev' x).1) = first.toList.map fun x => (ev x).1 := List.map_congr_left fun x hx => by rw [hev x (by simp at hx ⊢; exact .inl hx)]
    have e2 : caps.toList.map (fun x => (ev' x).1) = caps.toList.map fun x => (ev x).1 := List.map_congr_left fun x hx => by rw [hev x (by simp at hx ⊢; exact .inr hx)]
    rw [e1, e2]; exact h
  case slice t x l hi mx =>
    have hx := hev x (by simp)
    have hl : ∀ o, l = some o → ev' o = ev o := fun o ho => hev o (by simp [ho])
    have hh : ∀ o, hi = some o → ev' o = ev o := fun o ho => hev o (by simp [ho])
    have hm : ∀ o, mx = some o → ev' o = ev o := fun o ho => hev o (by simp [ho])
    rw [hx]
    split at h
    · rw [boundA_congr hl]
      rw [show (fun l => boundA ev' hi _ fun h => _) = (fun l => boundA ev hi _ fun h => _) from by funext l; rw [boundA_congr hh]]
      exact h
    · rw [boundA_congr hl]
      rw [show (fun l => boundA ev' hi _ fun h => boundA ev' mx _ fun m => _) = (fun l => boundA ev hi _ fun h => boundA ev mx _ fun m => _) from by
        funext l
        rw [boundA_congr hh]
        congr 1
        funext h
        rw [boundA_congr hm]]
      exact h
    · cases h
  case fieldAddr t x i => rw [hev x (by simp)]; exact h
  case field t x i => rw [hev x (by simp)]; exact h
  case indexAddr t x i => rw [hev x (by simp), hev i (by simp)]; exact h
  case index t x i => rw [hev x (by simp), hev i (by simp)]; exact h
  case extract x i => rw [hev x (by simp)]; exact h
  case call c =>
    obtain ⟨callee, args, argTypes⟩ := c
    simp only [Call.operands] at hev hlo
    have hargs : ∀ x ∈ args.toList, ev' x = ev x := fun x hx => hev x (by simp at hx ⊢; exact .inr hx)
    have e1 : args.toList.map (fun x => (ev' x).1) = args.toList.map fun x => (ev x).1 := List.map_congr_left fun x hx => by rw [hargs x hx]
    split at h
    · split at h
      · rename_i x hx
        simp only at hx
        rw [hargs x (by rw [hx]; simp)]
        exact h
      · cases h
    · rename_i hcal
      simp only at hcal
      subst hcal
      simp [opKind] at hk
    · rw [e1]; exact h
    · rw [e1]; exact h
    · rename_i fo hcal
      simp only at hcal
      subst hcal
      rw [hev fo (by simp)]
      split at h
      · rename_i p hp
        exfalso
        obtain ⟨g, rfl, _, hz⟩ := nilGrowOf_some hp
        simp [opKind, hz] at hk
      rename_i hp
      split at h
      · rename_i p hp
        exfalso
        obtain ⟨rfl, _, hz⟩ := ownArgOf_some hp
        simp [opKind, hz] at hk
      rename_i hp2
      split at h
      · rename_i fi first caps hfo
        rw [e1]
        obtain ⟨h0, h⟩ := cond_any h
        rw [h0, cond_true]
        rcases hsg with rfl | rfl
        · unfold callA at h ⊢
          split at h
          · rename_i fn dt hfn hd
            simp only [Bool.true_or, cond_true] at h ⊢
            exact h
          · cases h
        · exact h
      · cases h
    · cases h
  case buildSlice t len parts =>
    have hp : ∀ p ∈ parts.toList, ev' p.2 = ev p.2 := fun p hp => hev p.2 (by simpa using ⟨p.1, by simpa using hp⟩)
    simp only [fillA_congr hp]
    exact h
  all_goals (first | (cases h; done) | (simp [opKind] at hk; done))
end
end Go.Aev

end
section
/- Places of the frame's own lead to variables that are there. -/
namespace Go.Aev

def OkV (lo : List (Option (List Ent))) (x : AVal) : Prop := (∀ u off, x = .loc u off → lo.getD u none ≠ none) ∧ ∀ vs, x = .tup vs → ∀ c ∈ vs, handsOn c.1 = true

def StOk (s : St) : Prop := ∀ (t : Nat) (e : Ent), s.tm[t]? = some e → OkV s.lo e.1

theorem okV_hands {lo : List (Option (List Ent))} {x : AVal} (h : handsOn x = true) : OkV lo x := ⟨fun u off e => by (subst e; cases h), fun vs e => by (subst e; cases h)⟩
theorem okV_dat (lo : List (Option (List Ent))) (d : Dat) : OkV lo (.dat d) := okV_hands rfl
theorem okV_agg (lo : List (Option (List Ent))) (cs : List (Dat × Own)) : OkV lo (.agg cs) := okV_hands rfl
theorem okV_undef (lo : List (Option (List Ent))) : OkV lo .undef := ⟨fun u off e => (by cases e), fun vs e => (by cases e)⟩
theorem okV_junk (lo : List (Option (List Ent))) : OkV lo .junk := ⟨fun u off e => (by cases e), fun vs e => (by cases e)⟩

section
variable {C : Cfg} {s : St}

theorem constOf_ok (lo : List (Option (List Ent))) (v : Value) : OkV lo (constOf v).1 := by
  unfold constOf
  split
  · split
    · exact okV_agg _ _
    · exact okV_junk _
  · split
    · exact okV_dat _ _
    · exact okV_junk _

theorem StOk.ev (h : StOk s) (x : Operand) : OkV s.lo (s.ev C x).1 := by
  cases x with
  | tmp t =>
    simp only [St.ev, List.getD_eq_getElem?_getD]
    cases ht : s.tm[t]? with
    | none => exact okV_undef _
    | some e => exact h t e ht
  | const v => exact constOf_ok _ v
  | global i =>
    simp only [St.ev]
    split
    · exact okV_hands rfl
    · exact okV_junk _
  | func f => exact okV_hands rfl

theorem StOk.put (h : StOk s) {e : Ent} (he : OkV s.lo e.1) (d : Option Nat) : StOk (s.put d e) := by
  cases d with
  | none => exact h
  | some t =>
    intro u e' hu
    simp only [St.put, List.getElem?_set] at hu
    split at hu
    · split at hu
      · cases hu; exact he
      · cases hu
    · exact h u e' hu

theorem OkV.clear {lo : List (Option (List Ent))} {t : Nat} {e : Ent} (h : OkV lo e.1) : OkV (clearB t lo) (clearE t e).1 := by
  obtain ⟨x, o⟩ := e
  cases x with
  | loc u off =>
    refine ⟨fun u' off' e => ?_, fun vs e => (by cases e)⟩
    cases e
    rw [clearB_get]
    have := h.1 u off rfl
    cases hl : lo.getD u none with
    | none => exact absurd hl this
    | some c => simp
  | tup vs =>
    refine ⟨fun u off e => (by cases e), fun vs' e c hc => ?_⟩
    cases e
    obtain ⟨c', hc', rfl⟩ := List.mem_map.1 hc
    exact h.2 vs rfl c' hc'
  | agg cs => exact okV_agg _ _
  | dat d => exact okV_dat _ _
  | imm l => exact okV_hands rfl
  | ref i j => exact okV_hands rfl
  | clo a b c => exact okV_hands rfl
  | undef => exact okV_undef _
  | junk => exact okV_junk _

theorem StOk.clear (h : StOk s) (t : Nat) : StOk (s.clear t) := by
  intro u e hu
  simp only [St.clear, clearL_get, Option.map_eq_some_iff] at hu
  obtain ⟨e', he', rfl⟩ := hu
  exact (h u e' he').clear

theorem joinE_ok {lo : List (Option (List Ent))} {rs : List Ent} (h : ∀ e ∈ rs, handsOn e.1 = true) : OkV lo (joinE rs).1 := by
  match rs with
  | [] => exact ⟨fun u off e => (by cases e), fun vs e c hc => by cases e; cases hc⟩
  | [r] => exact okV_hands (h r (by simp))
  | r :: r' :: rs => exact ⟨fun u off e => (by cases e), fun vs e c hc => by cases e; exact h c hc⟩

theorem markAt_hands {i : Nat} {o : Own} {rs : List Ent} (h : ∀ e ∈ rs, handsOn e.1 = true) : ∀ e ∈ markAt i o rs, handsOn e.1 = true := by
  intro e he
  obtain ⟨j, hj⟩ := List.getElem?_of_mem he
  rw [markAt_get] at hj
  split at hj
  · rw [Option.map_eq_some_iff] at hj
    obtain ⟨e', he', rfl⟩ := hj
    exact h e' (List.mem_of_getElem? he')
  · exact h e (List.mem_of_getElem? hj)

theorem decVal_hands {β : Type} {P : Program} {t : TypeId} {e : Ent} {F : Ent → Option β} {r : β} (h : decVal P t e F = some r) : ∃ e', F e' = some r ∧ handsOn e'.1 = true := by
  rcases decVal_cases h with ⟨cs, _, h⟩ | ⟨d, _, h⟩ | ⟨_, h1, h⟩
  · exact ⟨_, h, rfl⟩
  · exact ⟨_, h, rfl⟩
  · exact ⟨_, h, h1⟩

theorem decVals_hands {β : Type} {P : Program} : ∀ {ts : List TypeId} {es : List Ent} {F : List Ent → Option β} {r : β}, decVals P ts es F = some r → ∃ es', F es' = some r ∧ ∀ e ∈ es', handsOn e.1 = true
  | [], [], F, r, h => ⟨[], h, fun e he => by cases he⟩
  | [], _ :: _, F, r, h => by cases h
  | t :: ts, [], F, r, h => by cases h
  | t :: ts, e :: es, F, r, h => by
    simp only [decVals] at h
    obtain ⟨e', h1, h2⟩ := decVal_hands h
    obtain ⟨es', h3, h4⟩ := decVals_hands h1
    exact ⟨e' :: es', h3, fun x hx => by
      rcases List.mem_cons.1 hx with rfl | hx
      · exact h2
      · exact h4 x hx⟩

/-- what each kind of deed needs -/
def OkD (s : St) (dst : Option Nat) (d : Dl) : Prop :=
  match d with
  | .val e => OkV s.lo e.1
  | .box _ => ∀ t, dst = some t → s.lo.getD t none = none ∧ t < s.lo.length
  | .sig _ e => OkV s.lo e.1
  | .los lo e => (∃ u cells cells', s.lo.getD u none = some cells ∧ lo = s.lo.set u (some cells')) ∧ ∀ lo', OkV lo' e.1
  | .clr _ e => ∀ lo', OkV lo' e.1

theorem getD_set {α : Type} {l : List (Option α)} {u k : Nat} {x : Option α} (h : u < l.length) : (l.set u x).getD k none = if k = u then x else l.getD k none := by
  simp only [List.getD_eq_getElem?_getD, List.getElem?_set]
  by_cases hk : u = k
  · subst hk; simp [h]
  · rw [if_neg hk, if_neg (fun e => hk e.symm)]

theorem lt_of_getD {α : Type} {l : List (Option α)} {u : Nat} {x : α} (h : l.getD u none = some x) : u < l.length := by
  rcases Nat.lt_or_ge u l.length with h' | h'
  · exact h'
  · rw [List.getD_eq_getElem?_getD, List.getElem?_eq_none h'] at h; cases h

theorem StOk.apply (h : StOk s) {d : Dl} {dst : Option Nat} (hd : OkD s dst d) : StOk (d.apply s dst) := by
  cases d with
  | val e => exact h.put hd dst
  | box cells =>
    cases dst with
    | none => exact h
    | some t =>
      obtain ⟨h2, h3⟩ := hd t rfl
      intro u e hu
      simp only [Dl.apply, List.getElem?_set] at hu
      split at hu
      · split at hu
        · cases hu
          refine ⟨fun u off e => ?_, fun vs e => (by cases e)⟩
          cases e
          show (s.lo.set t (some cells)).getD t none ≠ none
          rw [getD_set h3, if_pos rfl]
          simp
        · cases hu
      · obtain ⟨h4, h5⟩ := h u e hu
        refine ⟨fun k off e => ?_, h5⟩
        show (s.lo.set t (some cells)).getD k none ≠ none
        rw [getD_set h3]
        split
        · simp
        · exact h4 k off e
  | sig sg e => exact StOk.put (s := { s with sg := sg }) h hd dst
  | los lo e =>
    obtain ⟨⟨u, cells, cells', h1, rfl⟩, h3⟩ := hd
    have hlt := lt_of_getD h1
    have h' : StOk { s with lo := s.lo.set u (some cells') } := by
      intro k e hk
      obtain ⟨h4, h5⟩ := h k e hk
      refine ⟨fun j off e => ?_, h5⟩
      show (s.lo.set u (some cells')).getD j none ≠ none
      rw [getD_set hlt]
      split
      · simp
      · exact h4 j off e
    exact h'.put (h3 _) dst
  | clr t e => exact (h.clear t).put (hd _) dst

theorem evD_ok {call : CallFn} {f : FuncId} {ns : Bool} {o : Oper} {d : Dl} (hs : StOk s) (h : evD C call f ns (s.ev C) s.lo s.sg o some = some d) : OkD s o.dst d := by
  have hev : ∀ x, OkV s.lo (s.ev C x).1 := hs.ev
  have hnew : ∀ {cells : List Ent} {d : Dl}, newA C f ns s.lo s.sg o.dst cells some = some d → OkD s o.dst d := by
    intro cells d h
    unfold newA at h
    split at h
    · cases h
    · rename_i t ht
      cases he : C.esc f t with
      | true =>
        rw [he, cond_true] at h
        cases hns : (ns || !handsAll (cells.map fun c => c.1)) with
        | true => rw [hns] at h; cases h
        | false =>
          rw [hns, cond_false] at h
          cases h
          exact okV_hands rfl
      | false =>
        rw [he, cond_false] at h
        split at h
        · rename_i hnone
          obtain ⟨h1, h2⟩ := cond_any h
          cases h2
          rw [ht]
          exact fun t' e => by cases e; exact ⟨hnone, by simpa using h1⟩
        · cases h
  unfold evD at h
  cases hop : o.op <;> simp only [hop] at h
  case move x => cases h; exact hev x
  case assign x => cases h; exact hev x
  case pick c x y =>
    split at h
    · rename_i t ht
      split at h
      · cases h; exact okV_dat _ _
      · cases t with
        | true => cases h; exact hev x
        | false => cases h; exact hev y
    · cases h
  case alloc t =>
    split at h
    · cases hb : (t == C.bld.1) with
      | true =>
        rw [hb, cond_true] at h
        obtain ⟨u, hu, _, _, _, h1⟩ := newB_some h
        cases h1
        exact okV_hands rfl
      | false => rw [hb, cond_false] at h; exact hnew h
    · cases h
  case makeInterface t x =>
    split at h
    · have := (cond_any h).2
      cases this; exact okV_dat _ _
    · cases h
  case box t x =>
    cases him : C.imm t with
    | true =>
      rw [him, cond_true] at h
      obtain ⟨ds, _, rfl⟩ := immA_val h
      exact okV_hands rfl
    | false =>
    rw [him, cond_false] at h
    split at h
    · exact hnew (cond_any h).2
    · cases h
  case build t parts =>
    split at h
    · split at h
      · split at h
        · cases h; exact okV_agg _ _
        · cases h
      · cases h
    · split at h
      · split at h
        · cases h; exact okV_agg _ _
        · cases h
      · cases h
    · cases h
  case buildSlice t len parts =>
    split at h
    · split at h
      · obtain ⟨h3, h4⟩ := cond_any h
        split at h4
        · cases h1 : (len == 1) with
          | true => rw [h1, cond_true] at h4; cases h4; exact okV_dat _ _
          | false => rw [h1, cond_false] at h4; cases h4; exact fun lo' => okV_dat _ _
        · cases h4
      · cases h
    · cases h
  case load t p =>
    unfold loadA at h
    split at h
    · rename_i size d0 hsz hu
      split at h
      · rename_i u off hp
        split at h
        · rename_i cells hcells
          cases ha : isAggT C.P t with
          | true =>
            rw [ha, cond_true] at h
            obtain ⟨h1, h2⟩ := cond_any h
            split at h2
            · cases h2; exact okV_agg _ _
            · cases h2
          | false =>
            rw [ha, cond_false] at h
            split at h
            · rename_i e he
              obtain ⟨h1, h2⟩ := cond_any h
              cases h2
              exact okV_hands h1
            · cases h
        · cases h
      · split at h
        · cases ha : isAggT C.P t with
          | true =>
            rw [ha, cond_true] at h
            obtain ⟨h1, h2⟩ := cond_any h
            obtain ⟨ds, h3, _⟩ := cellsAt_some h2
            cases h3; exact okV_agg _ _
          | false =>
            rw [ha, cond_false] at h
            split at h
            · obtain ⟨x, _, h⟩ := cellAt_some h
              have := asShp_some h
              cases this; exact okV_dat _ _
            · cases h
        · cases h
      · cases ns with
        | true => cases h
        | false =>
          rw [cond_false] at h
          obtain ⟨l, hl, h⟩ := sgBox_some h
          cases ha : isAggT C.P t with
          | true =>
            rw [ha, cond_true] at h
            obtain ⟨h1, h2⟩ := cond_any h
            split at h2
            · cases h2; exact okV_agg _ _
            · cases h2
          | false =>
            rw [ha, cond_false] at h
            obtain ⟨x, hx, h⟩ := cellA_some h
            obtain ⟨e', h1, h2⟩ := decVal_hands h
            cases h1
            exact okV_hands h2
      · cases h
    · cases h
  case store t p x =>
    unfold storeA at h
    split at h
    · obtain ⟨h1, h2⟩ := cond_any h
      split at h2
      · split at h2
        · rename_i u off hp cells hcells
          obtain ⟨h3, h4⟩ := cond_any h2
          cases h4
          exact ⟨⟨_, _, _, hcells, rfl⟩, fun lo' => okV_undef _⟩
        · cases h2
      · rename_i i off hp
        cases hns : (ns || !plainA (s.ev C x).1) with
        | true => rw [hns] at h2; cases h2
        | false =>
          rw [hns, cond_false] at h2
          obtain ⟨l, hl, h2⟩ := sgBox_some h2
          obtain ⟨h3, h4⟩ := cond_any h2
          cases h4
          exact okV_undef _
      · cases h2
    · cases h
  case nilCheck x =>
    split at h
    · rename_i hx; cases h; have := hev x; rw [hx] at this; exact this
    · cases h; exact okV_hands rfl
    · cases h; exact okV_hands rfl
    · cases h
  case binOp op t x y u =>
    cases hno : nilO y with
    | true =>
      rw [hno, cond_true] at h
      obtain ⟨dd, _, h2⟩ := nilA_any (γ := Dat) h
      cases h2; exact okV_dat _ _
    | false =>
    rw [hno, cond_false] at h
    obtain ⟨dd, _, h2⟩ := binA_any (γ := Dat) h
    cases h2; exact okV_dat _ _
  case unOp op t x =>
    obtain ⟨dd, _, h2⟩ := unA_any (γ := Dat) h
    cases h2; exact okV_dat _ _
  case convert a b x =>
    obtain ⟨dd, _, h2⟩ := convA_any (γ := Dat) h
    cases h2; exact okV_dat _ _
  case makeFunc fn first caps =>
    obtain ⟨h1, h2⟩ := cond_any h
    cases h2; exact okV_hands rfl
  case makeSlice t l c =>
    split at h
    · split at h
      · obtain ⟨h3, h4⟩ := cond_any h
        cases h4; exact fun lo' => okV_dat _ _
      · cases h
    · cases h
  case slice t x lo hi mx =>
    split at h
    · obtain ⟨l, _, h2⟩ := boundA_any (γ := Dat) h
      obtain ⟨n, _, h4⟩ := boundA_any (γ := Dat) h2
      obtain ⟨h5, h6⟩ := cond_any h4
      cases h6; exact okV_dat _ _
    · obtain ⟨l, _, h2⟩ := boundA_any (γ := Dat) h
      obtain ⟨n, _, h4⟩ := boundA_any (γ := Dat) h2
      obtain ⟨m, _, h6⟩ := boundA_any (γ := Dat) h4
      split at h6
      · obtain ⟨h7, h8⟩ := cond_any h6
        cases h8; exact okV_dat _ _
      · cases h6
    · cases h
  case fieldAddr t x i =>
    split at h
    · split at h
      · rename_i n hn
        cases h0 : (n == 0) with
        | true => rw [h0] at h; cases h
        | false =>
          rw [h0, cond_false] at h
          split at h
          · rename_i u off hx
            cases h
            have := hev x
            rw [hx] at this
            exact ⟨fun u' off' e => by cases e; exact this.1 u off rfl, fun vs e => by cases e⟩
          · cases h; exact okV_hands rfl
          · cases h; exact okV_hands rfl
          · cases h
      · cases h
    · cases h
  case field t x i =>
    split at h
    · split at h
      · rename_i fd cs _ _ _ _ n _ hn _
        cases ha : isAggT C.P fd.type with
        | true =>
          rw [ha, cond_true] at h
          obtain ⟨h1, h2⟩ := cond_any h
          cases h2; exact okV_agg _ _
        | false =>
          rw [ha, cond_false] at h
          split at h
          · cases h; exact okV_dat _ _
          · cases h
      · cases h
    · cases h
  case indexAddr t x i =>
    split at h
    · split at h
      · obtain ⟨e, _, h2⟩ := elemAt_any (γ := Dat) h
        obtain ⟨h3, h4⟩ := cond_any h2
        cases h4; exact okV_hands rfl
      · cases h
    · split at h
      · obtain ⟨h3, h4⟩ := cond_any h
        simp only [Bool.and_eq_true, decide_eq_true_eq] at h3
        split at h4
        · rename_i u off hx
          rw [splitN_in (Nat.zero_le _) (by omega)] at h4
          cases h4
          have := hev x
          rw [hx] at this
          exact ⟨fun u' off' e => by cases e; exact this.1 u off rfl, fun vs e => by cases e⟩
        · cases h4; exact okV_hands rfl
        · cases h4; exact okV_hands rfl
        · cases h4
      · cases h
    · cases h
  case index t x i =>
    split at h
    · obtain ⟨e, _, h2⟩ := byteAt_any (γ := Dat) h
      cases h2; exact okV_dat _ _
    · split at h
      · obtain ⟨h3, h4⟩ := cond_any h
        split at h4
        · have h4 := (shpA_same h4).1; cases h4; exact okV_dat _ _
        · cases h4
      · cases h
    · cases h
  case extract x i =>
    split at h
    · rename_i vs hx
      split at h
      · rename_i e he
        cases h
        have := hev x
        rw [hx] at this
        exact okV_hands (this.2 vs rfl e (List.mem_of_getElem? he))
      · cases h
    · cases h
  case call c =>
    split at h
    · split at h
      · obtain ⟨dd, _, h2⟩ := lenA_any (γ := Dat) h
        cases h2; exact okV_dat _ _
      · cases h
    · split at h
      · unfold appendA at h
        split at h
        · split at h
          · split at h
            · obtain ⟨h3, h4⟩ := cond_any h
              split at h4
              · have := (cond_any h4).2
                cases this; exact fun lo' => okV_dat _ _
              · cases h4; exact fun lo' => okV_dat _ _
              · cases h4
            · cases h
          · cases h
        · cases h
      · cases h
    · split at h
      · cases h; exact okV_dat _ _
      · cases h
    · split at h
      · cases h; exact okV_dat _ _
      · cases h
    · split at h
      · obtain ⟨d', n, _, _, _, _, _, h1⟩ := growA_some h
        cases h1
        exact fun lo' => okV_dat _ _
      split at h
      · obtain ⟨_, _, _, _, _, _, _, _, _, _, _, _, _, _, h1⟩ := ownCallA_some h
        cases h1
        exact fun lo' => okV_dat _ _
      split at h
      · have h := (cond_any h).2
        unfold callA at h
        split at h
        · rename_i g _ _ _ _ _ fn dt hfn hd
          cases hh : (!handsAll _ || fn.body.isNone || (C.ownArg _).isSome) with
          | true => rw [hh] at h; cases h
          | false =>
            rw [hh, cond_false] at h
            cases hpl : (plainL _ && fn.resultTypes.toList.all (plainT C.P)) with
            | true =>
              rw [hpl, cond_true] at h
              simp only [Option.bind_eq_some_iff] at h
              obtain ⟨⟨rs, sg'⟩, hc, h⟩ := h
              obtain ⟨es, h1, h2⟩ := decVals_hands h
              split at h1
              · obtain ⟨h3, h4⟩ := cond_any h1
                cases h4
                exact fun lo' => joinE_ok (markAt_hands h2)
              · cases h1
                exact joinE_ok h2
            | false =>
              rw [hpl, cond_false] at h
              cases hns : (ns || _) with
              | true => rw [hns] at h; cases h
              | false =>
                rw [hns, cond_false] at h
                simp only [Option.bind_eq_some_iff] at h
                obtain ⟨⟨rs, sg'⟩, hc, h⟩ := h
                obtain ⟨es, h1, h2⟩ := decVals_hands h
                cases h1
                exact joinE_ok h2
        · cases h
      · cases h
    · cases h
  all_goals cases h

theorem stepA_ok {call : CallFn} {f : FuncId} {ns : Bool} {ops : Array Oper} {o : Oper} {s' : St} (hs : StOk s) (h : stepA C call f ns ops s o = some s') : StOk s' := by
  unfold stepA at h
  split at h
  · rw [Option.map_eq_some_iff] at h
    obtain ⟨d, hd, rfl⟩ := h
    exact hs.apply (evD_ok hs hd)
  · cases h; exact hs.put (okV_undef _) _
  · cases h
end
end Go.Aev

end
