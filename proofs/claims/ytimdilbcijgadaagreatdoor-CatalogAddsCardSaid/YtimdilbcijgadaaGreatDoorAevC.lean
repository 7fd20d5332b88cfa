/- A deep evaluator for the code of the model, and its soundness: part 3. -/
import Derived.Test.YtimdilbcijgadaaGreatDoorAevB
import Derived.Scope
set_option linter.unusedVariables false
set_option linter.unusedSimpArgs false
section
/- Operations whose order is open. -/
namespace Go.Aev

section
variable {C : Cfg} {call : CallFn} {f : FuncId} {s s1 s2 : St} {ops : Array Oper}

/-- the deeds of operations that may change places -/
theorem evD_kind {ns : Bool} {ev : Operand → Ent} {lo : List (Option (List Ent))} {sg : Sig} {o : Oper} {d : Dl} (hk : opKind C f o.dst o.op ≤ 2) (hev : ∀ g, (ev (.func g)).1 = .clo (.func g) [] []) (h : evD C call f ns ev lo sg o some = some d) :
    (∃ e, d = .val e) ∨ (∃ cells, d = .box cells ∧ isNew C o.op = true) ∨ (∃ sg' e, d = .sig sg' e ∧ opKind C f o.dst o.op = 2 ∧ ns = false) := by
  have hnew : ∀ {cells : List Ent} {d : Dl}, newA C f ns lo sg o.dst cells some = some d → (∀ t, o.dst = some t → C.esc f t = false) → ∃ cells, d = .box cells := by
    intro cells d h he
    unfold newA at h
    split at h
    · cases h
    · rename_i t ht
      rw [he t ht, cond_false] at h
      split at h
      · have := (cond_any h).2
        cases this; exact ⟨_, rfl⟩
      · cases h
  unfold evD at h
  cases hop : o.op <;> simp only [hop] at h hk
  case move x => cases h; exact .inl ⟨_, rfl⟩
  case assign x => cases h; exact .inl ⟨_, rfl⟩
  case pick c x y =>
    split at h
    · rename_i t ht
      split at h
      · cases h; exact .inl ⟨_, rfl⟩
      · cases t with
        | true => cases h; exact .inl ⟨_, rfl⟩
        | false => cases h; exact .inl ⟨_, rfl⟩
    · cases h
  case alloc t =>
    split at h
    · have hesc : ∀ t, o.dst = some t → C.esc f t = false := fun t ht => by
        simp only [opKind, ht] at hk
        cases he : C.esc f t with
        | false => rfl
        | true => rw [he] at hk; simp at hk
      cases hb : (t == C.bld.1) with
      | true =>
        rw [hb, cond_true] at h
        obtain ⟨u, hu, h1, _⟩ := newB_some h
        rw [hesc u hu] at h1; cases h1
      | false =>
        rw [hb, cond_false] at h
        obtain ⟨c, hc⟩ := hnew h hesc
        exact .inr (.inl ⟨c, hc, rfl⟩)
    · cases h
  case makeInterface t x =>
    split at h
    · have := (cond_any h).2
      cases this; exact .inl ⟨_, rfl⟩
    · cases h
  case box t x =>
    cases him : C.imm t with
    | true =>
      rw [him, cond_true] at h
      obtain ⟨ds, _, rfl⟩ := immA_val h
      exact .inl ⟨_, rfl⟩
    | false =>
    rw [him, cond_false] at h
    split at h
    · have hesc : ∀ t, o.dst = some t → C.esc f t = false := fun t ht => by
        simp only [opKind, ht, him, cond_false] at hk
        cases he : C.esc f t with
        | false => rfl
        | true => rw [he] at hk; simp at hk
      obtain ⟨c, hc⟩ := hnew (cond_any h).2 hesc
      exact .inr (.inl ⟨c, hc, by simp only [isNew, him]; rfl⟩)
    · cases h
  case build t parts =>
    split at h
    · split at h
      · split at h
        · cases h; exact .inl ⟨_, rfl⟩
        · cases h
      · cases h
    · split at h
      · split at h
        · cases h; exact .inl ⟨_, rfl⟩
        · cases h
      · cases h
    · cases h
  case load t p =>
    obtain ⟨e, _, h2⟩ := loadA_any (γ := Ent) h
    cases h2; exact .inl ⟨_, rfl⟩
  case nilCheck x =>
    split at h
    · cases h; exact .inl ⟨_, rfl⟩
    · cases h; exact .inl ⟨_, rfl⟩
    · cases h; exact .inl ⟨_, rfl⟩
    · cases h
  case binOp op t x y u =>
    cases hno : nilO y with
    | true =>
      rw [hno, cond_true] at h
      obtain ⟨dd, _, h2⟩ := nilA_any (γ := Dat) h
      cases h2; exact .inl ⟨_, rfl⟩
    | false =>
    rw [hno, cond_false] at h
    obtain ⟨dd, _, h2⟩ := binA_any (γ := Dat) h
    cases h2; exact .inl ⟨_, rfl⟩
  case unOp op t x =>
    obtain ⟨dd, _, h2⟩ := unA_any (γ := Dat) h
    cases h2; exact .inl ⟨_, rfl⟩
  case convert a b x =>
    obtain ⟨dd, _, h2⟩ := convA_any (γ := Dat) h
    cases h2; exact .inl ⟨_, rfl⟩
  case makeFunc fn first caps =>
    have := (cond_any h).2
    cases this; exact .inl ⟨_, rfl⟩
  case slice t x lo hi mx =>
    split at h
    · obtain ⟨l, _, h2⟩ := boundA_any (γ := Dat) h
      obtain ⟨n, _, h4⟩ := boundA_any (γ := Dat) h2
      have := (cond_any h4).2
      cases this; exact .inl ⟨_, rfl⟩
    · obtain ⟨l, _, h2⟩ := boundA_any (γ := Dat) h
      obtain ⟨n, _, h4⟩ := boundA_any (γ := Dat) h2
      obtain ⟨m, _, h6⟩ := boundA_any (γ := Dat) h4
      split at h6
      · have := (cond_any h6).2
        cases this; exact .inl ⟨_, rfl⟩
      · cases h6
    · cases h
  case fieldAddr t x i =>
    split at h
    · split at h
      · rename_i n hn
        cases h0 : (n == 0) with
        | true => rw [h0] at h; cases h
        | false =>
          rw [h0, cond_false] at h
          split at h
          · cases h; exact .inl ⟨_, rfl⟩
          · cases h; exact .inl ⟨_, rfl⟩
          · cases h; exact .inl ⟨_, rfl⟩
          · cases h
      · cases h
    · cases h
  case field t x i =>
    split at h
    · split at h
      · rename_i fd cs _ _ _ _ n _ hn _
        cases ha : isAggT C.P fd.type with
        | true =>
          rw [ha, cond_true] at h
          have := (cond_any h).2
          cases this; exact .inl ⟨_, rfl⟩
        | false =>
          rw [ha, cond_false] at h
          split at h
          · cases h; exact .inl ⟨_, rfl⟩
          · cases h
      · cases h
    · cases h
  case indexAddr t x i =>
    split at h
    · split at h
      · obtain ⟨e, _, h2⟩ := elemAt_any (γ := Dat) h
        have := (cond_any h2).2
        cases this; exact .inl ⟨_, rfl⟩
      · cases h
    · split at h
      · obtain ⟨h3, h4⟩ := cond_any h
        simp only [Bool.and_eq_true, decide_eq_true_eq] at h3
        split at h4
        · rw [splitN_in (Nat.zero_le _) (by omega)] at h4; cases h4; exact .inl ⟨_, rfl⟩
        · cases h4; exact .inl ⟨_, rfl⟩
        · cases h4; exact .inl ⟨_, rfl⟩
        · cases h4
      · cases h
    · cases h
  case index t x i =>
    split at h
    · obtain ⟨e, _, h2⟩ := byteAt_any (γ := Dat) h
      cases h2; exact .inl ⟨_, rfl⟩
    · split at h
      · obtain ⟨h3, h4⟩ := cond_any h
        split at h4
        · have h4 := (shpA_same h4).1; cases h4; exact .inl ⟨_, rfl⟩
        · cases h4
      · cases h
    · cases h
  case extract x i =>
    split at h
    · split at h
      · cases h; exact .inl ⟨_, rfl⟩
      · cases h
    · cases h
  case call c =>
    obtain ⟨callee, args, argTypes⟩ := c
    split at h
    · split at h
      · obtain ⟨dd, _, h2⟩ := lenA_any (γ := Dat) h
        cases h2; exact .inl ⟨_, rfl⟩
      · cases h
    · rename_i hcal
      simp only at hcal
      subst hcal
      simp [opKind] at hk
    · split at h
      · cases h; exact .inl ⟨_, rfl⟩
      · cases h
    · split at h
      · cases h; exact .inl ⟨_, rfl⟩
      · cases h
    · rename_i fo hcal
      simp only at hcal
      subst hcal
      split at h
      · rename_i p hp
        exfalso
        obtain ⟨g, rfl, _, hz⟩ := nilGrowOf_some hp
        simp [opKind, hz] at hk
      rename_i hp
      split at h
      · rename_i p hp
        exfalso
        obtain ⟨rfl, _, hz⟩ := ownArgOf_some hp
        simp [opKind, hz] at hk
      rename_i hp2
      split at h
      · rename_i g first caps hfo
        obtain ⟨h0, h⟩ := cond_any h
        have hown : opKind C f o.dst (.call { callee := .value fo, args := args, argTypes := argTypes }) = 2 ∧ (C.ownRes g).isNone = true := by
          cases fo with
          | func g' =>
            rw [hev] at hfo
            cases hfo
            simp only [opKind] at hk ⊢
            cases hi : (C.ownRes g).isNone with
            | true =>
              rw [hi] at hk
              cases hj : (C.nilGrow g).isNone with
              | true =>
                rw [hj] at hk
                cases hl : (C.ownArg g).isNone with
                | true => exact ⟨rfl, rfl⟩
                | false => rw [hl] at hk; simp at hk
              | false => rw [hj] at hk; simp at hk
            | false => rw [hi] at hk; simp at hk
          | tmp t => exact ⟨rfl, by simpa [isFuncO] using h0⟩
          | const v => exact ⟨rfl, by simpa [isFuncO] using h0⟩
          | global i => exact ⟨rfl, by simpa [isFuncO] using h0⟩
        obtain ⟨hk2, hown⟩ := hown
        unfold callA at h
        split at h
        · rename_i fn dt hfn hd
          cases hh : (!handsAll _ || fn.body.isNone || (C.ownArg g).isSome) with
          | true => rw [hh] at h; cases h
          | false =>
            rw [hh, cond_false] at h
            cases hpl : (plainL _ && fn.resultTypes.toList.all (plainT C.P)) with
            | true =>
              rw [hpl, cond_true] at h
              simp only [Option.bind_eq_some_iff] at h
              obtain ⟨⟨rs, sg'⟩, hc, h⟩ := h
              obtain ⟨es, h1, h2⟩ := decVals_hands h
              split at h1
              · rename_i hi; rw [hi] at hown; cases hown
              · cases h1; exact .inl ⟨_, rfl⟩
            | false =>
              rw [hpl, cond_false] at h
              cases hns : (ns || (C.ownRes g).isSome) with
              | true => rw [hns] at h; cases h
              | false =>
                rw [hns, cond_false] at h
                simp only [Option.bind_eq_some_iff] at h
                obtain ⟨⟨rs, sg'⟩, hc, h⟩ := h
                obtain ⟨es, h1, h2⟩ := decVals_hands h
                cases h1
                refine .inr (.inr ⟨_, _, rfl, hk2, ?_⟩)
                cases ns with
                | false => rfl
                | true => cases hns
        · cases h
      · cases h
    · cases h
  case buildSlice t len parts =>
    split at h
    · split at h
      · have := (cond_any h).2
        split at this
        · cases h1 : (len == 1) with
          | true => rw [h1, cond_true] at this; cases this; exact .inl ⟨_, rfl⟩
          | false => simp only [opKind, h1, cond_false] at hk; omega
        · cases this
      · cases h
    · cases h
  all_goals (first | (cases h; done) | (simp [opKind] at hk; done))

theorem ev_func (C : Cfg) (s : St) (g : FuncId) : (s.ev C (.func g)).1 = .clo (.func g) [] [] := rfl

/-- a deed that is none of store and append -/
def Mild (d : Dl) : Prop := (∃ e, d = .val e) ∨ (∃ cells, d = .box cells) ∨ ∃ sg e, d = .sig sg e

theorem apply_tm {d : Dl} (hm : Mild d) {dst : Option Nat} {t : Nat} (h : dst ≠ some t) : (d.apply s dst).tm[t]? = s.tm[t]? := by
  have hput : ∀ (s : St) (e : Ent), (s.put dst e).tm[t]? = s.tm[t]? := by
    intro s e
    cases dst with
    | none => rfl
    | some u => simp only [St.put]; rw [List.getElem?_set, if_neg (fun e => h (by rw [e]))]
  rcases hm with ⟨e, rfl⟩ | ⟨cells, rfl⟩ | ⟨sg, e, rfl⟩
  · exact hput s e
  · cases dst with
    | none => rfl
    | some u => simp only [Dl.apply]; rw [List.getElem?_set, if_neg (fun e => h (by rw [e]))]
  · exact hput { s with sg := sg } e

theorem apply_len {d : Dl} (hm : Mild d) {dst : Option Nat} : (d.apply s dst).lo.length = s.lo.length := by
  rcases hm with ⟨e, rfl⟩ | ⟨cells, rfl⟩ | ⟨sg, e, rfl⟩
  · cases dst <;> rfl
  · cases dst <;> simp [Dl.apply]
  · cases dst <;> rfl

theorem apply_lo {d : Dl} (hm : Mild d) {dst : Option Nat} {u : Nat} (h : (∃ cells, d = .box cells) → dst ≠ some u) : (d.apply s dst).lo.getD u none = s.lo.getD u none := by
  rcases hm with ⟨e, rfl⟩ | ⟨cells, rfl⟩ | ⟨sg, e, rfl⟩
  · cases dst <;> rfl
  · cases dst with
    | none => rfl
    | some t =>
      have := h ⟨_, rfl⟩
      simp only [Dl.apply, List.getD_eq_getElem?_getD, List.getElem?_set]
      rw [if_neg (fun e => this (by rw [e]))]
  · cases dst <;> rfl

theorem apply_sg {d : Dl} (hm : Mild d) {dst : Option Nat} (h : ∀ sg e, d ≠ .sig sg e) : (d.apply s dst).sg = s.sg := by
  rcases hm with ⟨e, rfl⟩ | ⟨cells, rfl⟩ | ⟨sg, e, rfl⟩
  · cases dst <;> rfl
  · cases dst <;> rfl
  · exact absurd rfl (h _ _)

theorem St.ext' {a b : St} (h1 : a.tm = b.tm) (h2 : a.lo = b.lo) (h3 : a.sg = b.sg) : a = b := by
  cases a; cases b; simp_all

theorem apply_comm {d e : Dl} (hd : Mild d) (he : Mild e) {x y : Option Nat} (hxy : ∀ t, x = some t → y ≠ some t) (hsg : (∀ sg v, d ≠ .sig sg v) ∨ ∀ sg v, e ≠ .sig sg v) : e.apply (d.apply s x) y = d.apply (e.apply s y) x := by
  cases x with
  | none =>
    rcases hd with ⟨e1, rfl⟩ | ⟨c1, rfl⟩ | ⟨g1, e1, rfl⟩
    · rfl
    · rfl
    · rcases he with ⟨e2, rfl⟩ | ⟨c2, rfl⟩ | ⟨g2, e2, rfl⟩
      · cases y <;> rfl
      · cases y <;> rfl
      · rcases hsg with h | h
        · exact absurd rfl (h _ _)
        · exact absurd rfl (h _ _)
  | some t =>
    cases y with
    | none =>
      rcases he with ⟨e2, rfl⟩ | ⟨c2, rfl⟩ | ⟨g2, e2, rfl⟩
      · rfl
      · rfl
      · rcases hd with ⟨e1, rfl⟩ | ⟨c1, rfl⟩ | ⟨g1, e1, rfl⟩
        · rfl
        · rfl
        · rcases hsg with h | h
          · exact absurd rfl (h _ _)
          · exact absurd rfl (h _ _)
    | some u =>
      have htu : t ≠ u := fun e => hxy t rfl (by rw [e])
      rcases hd with ⟨e1, rfl⟩ | ⟨c1, rfl⟩ | ⟨g1, e1, rfl⟩ <;> rcases he with ⟨e2, rfl⟩ | ⟨c2, rfl⟩ | ⟨g2, e2, rfl⟩
      all_goals
        first
          | (refine St.ext' ?_ ?_ ?_ <;> simp only [Dl.apply, St.put] <;> first | rfl | exact List.set_comm _ _ htu | exact (List.set_comm _ _ htu.symm).symm)
          | (rcases hsg with h | h <;> exact absurd rfl (h _ _))

/-- an operation that is carried out or left out -/
theorem stepA_cases {ns : Bool} {o : Oper} {s' : St} (hk : opKind C f o.dst o.op ≤ 2) (h : stepA C call f ns ops s o = some s') :
    (∃ d, wantedA ops s o = some true ∧ evD C call f ns (s.ev C) s.lo s.sg o some = some d ∧ s' = d.apply s o.dst ∧ Mild d ∧ ((∃ sg e, d = .sig sg e) → opKind C f o.dst o.op = 2 ∧ ns = false) ∧ ((∃ cells, d = .box cells) → isNew C o.op = true)) ∨
    (wantedA ops s o = some false ∧ s' = (Dl.val (.undef, .none)).apply s o.dst) := by
  unfold stepA at h
  split at h
  · rename_i hw
    rw [Option.map_eq_some_iff] at h
    obtain ⟨d, hd, rfl⟩ := h
    left
    rcases evD_kind hk (ev_func C s) hd with ⟨e, rfl⟩ | ⟨c, rfl, hn⟩ | ⟨sg, e, rfl, h1, h2⟩
    · exact ⟨_, hw, hd, rfl, .inl ⟨_, rfl⟩, (fun ⟨_, _, e⟩ => by cases e), fun ⟨_, e⟩ => by cases e⟩
    · exact ⟨_, hw, hd, rfl, .inr (.inl ⟨_, rfl⟩), (fun ⟨_, _, e⟩ => by cases e), fun _ => hn⟩
    · exact ⟨_, hw, hd, rfl, .inr (.inr ⟨_, _, rfl⟩), (fun _ => ⟨h1, h2⟩), fun ⟨_, e⟩ => by cases e⟩
  · rename_i hw
    cases h
    exact .inr ⟨hw, rfl⟩
  · cases h

theorem wantedA_frame {s t : St} {o : Oper} (h : ∀ k ∈ opTmps o ops, t.tm[k]? = s.tm[k]?) : wantedA ops t o = wantedA ops s o := by
  unfold wantedA
  split
  · rfl
  · rename_i j want hg
    split
    · rfl
    · rename_i d hj
      rw [h d (by simp [opTmps, hg, hj])]

theorem ev_frame {s t : St} {o : Oper} (h : ∀ k ∈ opTmps o ops, t.tm[k]? = s.tm[k]?) : ∀ x ∈ o.op.operands.toList, t.ev C x = s.ev C x := by
  intro x hx
  cases x with
  | tmp k =>
    have := h k (by
      simp only [opTmps, List.mem_append, List.mem_filterMap]
      exact .inl ⟨.tmp k, hx, rfl⟩)
    simp only [St.ev, List.getD_eq_getElem?_getD, this]
  | const v => rfl
  | global i => rfl
  | func g => rfl

/-- y's step, made a deed of x's earlier -/
theorem step_back {ny : Bool} {y : Oper} {dx : Dl} {x : Option Nat} {s2 : St} (hs : StOk s) (hdx : OkD s x dx) (hm : Mild dx) (hxy : ∀ t, x = some t → t ∉ opTmps y ops ∧ y.dst ≠ some t) (hky : opKind C f y.dst y.op ≤ 2)
    (hsg : (∃ sg e, dx = .sig sg e) → ny = true) (h : stepA C call f ny ops (dx.apply s x) y = some s2) :
    ∃ dy, stepA C call f ny ops s y = some (dy.apply s y.dst) ∧ s2 = dy.apply (dx.apply s x) y.dst ∧ Mild dy ∧ OkD s y.dst dy ∧ ((∃ sg e, dy = .sig sg e) → opKind C f y.dst y.op = 2 ∧ ny = false) := by
  have htm : ∀ k ∈ opTmps y ops, s.tm[k]? = (dx.apply s x).tm[k]? := fun k hk => (apply_tm hm fun e => (hxy k e).1 hk).symm
  rcases stepA_cases hky h with ⟨d, hw, hd, rfl, hmd, hsd, _⟩ | ⟨hw, rfl⟩
  · have hd' : evD C call f ny (s.ev C) s.lo s.sg y some = some d := by
      refine evD_frame hky hd (ev_frame htm) ?_ ?_ (apply_len hm).symm ?_
      · rintro u ⟨lt, z, off, hop, hzu⟩
        have hz : z ∈ y.op.operands.toList := by rw [hop]; simp [Op.operands]
        refine (apply_lo hm fun ⟨cells, hc⟩ e => ?_).symm
        subst hc
        have hval : (s.ev C z).1 = .loc u off := by rw [ev_frame htm z hz]; exact hzu
        have h1 := (hs.ev (C := C) z).1 u off hval
        exact h1 (hdx u e).1
      · intro _ t ht
        exact (apply_lo hm fun _ e => (hxy t e).2 ht).symm
      · by_cases hx : ∃ sg e, dx = .sig sg e
        · exact .inl (hsg hx)
        · exact .inr (apply_sg hm fun sg e he => hx ⟨sg, e, he⟩).symm
    refine ⟨d, ?_, rfl, hmd, evD_ok hs hd', hsd⟩
    unfold stepA
    rw [wantedA_frame htm, hw]
    simp [hd']
  · refine ⟨.val (.undef, .none), ?_, rfl, .inl ⟨_, rfl⟩, okV_undef _, fun ⟨_, _, e⟩ => by cases e⟩
    unfold stepA
    rw [wantedA_frame htm, hw]
    rfl

theorem swap_mild {nx ny : Bool} {x y : Oper} (hxy : ∀ t, x.dst = some t → t ∉ opTmps y ops ∧ y.dst ≠ some t) (hyx : ∀ t, y.dst = some t → t ∉ opTmps x ops ∧ x.dst ≠ some t) (hkx : opKind C f x.dst x.op ≤ 2) (hky : opKind C f y.dst y.op ≤ 2) (hny : opKind C f x.dst x.op = 2 → ny = true) (hnx : opKind C f y.dst y.op = 2 → nx = true) (hs : StOk s)
    (h1 : stepA C call f nx ops s x = some s1) (h2 : stepA C call f ny ops s1 y = some s2) : ∃ s', stepA C call f ny ops s y = some s' ∧ stepA C call f nx ops s' x = some s2 := by
  have key : ∀ {dx : Dl}, OkD s x.dst dx → Mild dx → ((∃ sg e, dx = .sig sg e) → opKind C f x.dst x.op = 2 ∧ nx = false) → s1 = dx.apply s x.dst →
      (∀ {dy : Dl}, Mild dy → OkD s y.dst dy → ((∃ sg e, dy = .sig sg e) → nx = true) → stepA C call f nx ops (dy.apply s y.dst) x = some (dx.apply (dy.apply s y.dst) x.dst)) →
      ∃ s', stepA C call f ny ops s y = some s' ∧ stepA C call f nx ops s' x = some s2 := by
    intro dx hdx hm hsx e1 hback
    subst e1
    obtain ⟨dy, h3, h4, h5, h6, h7⟩ := step_back hs hdx hm hxy hky (fun h => hny (hsx h).1) h2
    refine ⟨_, h3, ?_⟩
    rw [hback h5 h6 fun h => hnx (h7 h).1, h4]
    congr 1
    refine (apply_comm hm h5 (fun t ht => (hxy t ht).2) ?_).symm
    by_cases hx : ∃ sg e, dx = .sig sg e
    · right
      intro sg v e
      have a1 := hny (hsx hx).1
      have a2 := (h7 ⟨sg, v, e⟩).2
      rw [a1] at a2
      cases a2
    · exact .inl fun sg v e => hx ⟨sg, v, e⟩
  rcases stepA_cases hkx h1 with ⟨d, hw, hd, rfl, hmd, hsd, _⟩ | ⟨hw, rfl⟩
  · refine key (evD_ok hs hd) hmd hsd rfl ?_
    intro dy hmy hoy hsy
    have htm : ∀ k ∈ opTmps x ops, (dy.apply s y.dst).tm[k]? = s.tm[k]? := fun k hk => apply_tm hmy fun e => (hyx k e).1 hk
    have hd' : evD C call f nx ((dy.apply s y.dst).ev C) (dy.apply s y.dst).lo (dy.apply s y.dst).sg x some = some d := by
      refine evD_frame hkx hd (ev_frame htm) ?_ ?_ (apply_len hmy) ?_
      · rintro u ⟨lt, z, off, hop, hzu⟩
        refine apply_lo hmy fun ⟨cells, hc⟩ e => ?_
        subst hc
        have h1 := (hs.ev (C := C) z).1 u off hzu
        exact h1 (hoy u e).1
      · intro _ t ht
        exact apply_lo hmy fun _ e => (hyx t e).2 ht
      · by_cases hy : ∃ sg e, dy = .sig sg e
        · exact .inl (hsy hy)
        · exact .inr (apply_sg hmy fun sg e he => hy ⟨sg, e, he⟩)
    unfold stepA
    rw [wantedA_frame htm, hw]
    simp [hd']
  · refine key (dx := .val (.undef, .none)) (okV_undef _) (.inl ⟨_, rfl⟩) (fun ⟨_, _, e⟩ => by cases e) rfl ?_
    intro dy hmy hoy hsy
    have htm : ∀ k ∈ opTmps x ops, (dy.apply s y.dst).tm[k]? = s.tm[k]? := fun k hk => apply_tm hmy fun e => (hyx k e).1 hk
    unfold stepA
    rw [wantedA_frame htm, hw]
    rfl

/-- a deed of an operation that makes no variable -/
def Soft (d : Dl) : Prop := (∃ e, d = .val e) ∨ ∃ sg e, d = .sig sg e

theorem soft_lo {d : Dl} (h : Soft d) {x : Option Nat} : (d.apply s x).lo = s.lo := by
  rcases h with ⟨e, rfl⟩ | ⟨sg, e, rfl⟩ <;> cases x <;> rfl

theorem los_sg {lo : List (Option (List Ent))} {e : Ent} {x : Option Nat} : ((Dl.los lo e).apply s x).sg = s.sg := by
  cases x <;> rfl

theorem los_lo {lo : List (Option (List Ent))} {e : Ent} {x : Option Nat} : ((Dl.los lo e).apply s x).lo = lo := by
  cases x <;> rfl

theorem los_tm {lo : List (Option (List Ent))} {e : Ent} {x : Option Nat} {k : Nat} (h : x ≠ some k) : ((Dl.los lo e).apply s x).tm[k]? = s.tm[k]? := by
  cases x with
  | none => rfl
  | some u => simp only [Dl.apply, St.put]; rw [List.getElem?_set, if_neg (fun e => h (by rw [e]))]

theorem soft_mild {d : Dl} (h : Soft d) : Mild d := by
  rcases h with h | h
  · exact .inl h
  · exact .inr (.inr h)

theorem soft_comm {d : Dl} (h : Soft d) {lo : List (Option (List Ent))} {e : Ent} {x y : Option Nat} (hxy : ∀ t, x = some t → y ≠ some t) : (Dl.los lo e).apply (d.apply s x) y = d.apply ((Dl.los lo e).apply s y) x := by
  rcases h with ⟨v, rfl⟩ | ⟨sg, v, rfl⟩ <;> cases x with
  | none => cases y <;> rfl
  | some t =>
    cases y with
    | none => rfl
    | some u =>
      have htu : t ≠ u := fun e => hxy t rfl (by rw [e])
      refine St.ext' ?_ ?_ ?_ <;> simp only [Dl.apply, St.put] <;> first | rfl | exact List.set_comm _ _ htu

/-- an operation that may change places with stores -/
theorem stepA_soft {ns : Bool} {o : Oper} {s' : St} (hk : softOp C f o = true) (h : stepA C call f ns ops s o = some s') :
    (∃ d, wantedA ops s o = some true ∧ evD C call f ns (s.ev C) s.lo s.sg o some = some d ∧ s' = d.apply s o.dst ∧ Soft d) ∨
    (wantedA ops s o = some false ∧ s' = (Dl.val (.undef, .none)).apply s o.dst) := by
  simp only [softOp, Bool.and_eq_true, decide_eq_true_eq, Bool.not_eq_true'] at hk
  rcases stepA_cases hk.1.1 h with ⟨d, hw, hd, e, hm, _, hb⟩ | h
  · refine .inl ⟨d, hw, hd, e, ?_⟩
    rcases hm with h | h | h
    · exact .inl h
    · rw [hb h] at hk; cases hk.1.2
    · exact .inr h
  · exact .inr h

theorem stPtr_some {op : Op} {k : Nat} (h : stPtr op = some k) : ∃ t v, op = .store t (.tmp k) v := by
  unfold stPtr at h
  split at h
  · cases h; exact ⟨_, _, rfl⟩
  · cases h

/-- a store to a variable of the frame's own -/
theorem store_own {ns : Bool} {o : Oper} {d : Dl} {k u off : Nat} (ho : stPtr o.op = some k) (hk : (s.ev C (.tmp k)).1 = .loc u off) (h : evD C call f ns (s.ev C) s.lo s.sg o some = some d) :
    ∃ c', d = .los (s.lo.set u (some c')) (.undef, .none) ∧ ∀ (t : St), (∀ x ∈ o.op.operands.toList, t.ev C x = s.ev C x) → t.lo.getD u none = s.lo.getD u none →
      evD C call f ns (t.ev C) t.lo t.sg o some = some (.los (t.lo.set u (some c')) (.undef, .none)) := by
  obtain ⟨ty, v, hop⟩ := stPtr_some ho
  unfold evD at h
  simp only [hop] at h
  unfold storeA at h
  split at h
  · rename_i size cs hsz hcs
    obtain ⟨h1, h2⟩ := cond_any h
    rw [hk] at h2
    simp only at h2
    split at h2
    · rename_i cells hcells
      obtain ⟨h3, h4⟩ := cond_any h2
      cases h4
      refine ⟨_, rfl, fun t ht hl => ?_⟩
      have e1 := ht (.tmp k) (by rw [hop]; simp [Op.operands])
      have e2 := ht v (by rw [hop]; simp [Op.operands])
      unfold evD
      simp only [hop]
      unfold storeA
      rw [e1, e2, hk]
      simp only [hsz, hcs, h1, cond_true, hl, hcells, h3]
    · cases h2
  · cases h

/-- the place a load reads lies elsewhere -/
def Elsewhere (C : Cfg) (s : St) (u : Nat) (o : Oper) : Prop := ∀ t p off v, o.op = .load t p → (s.ev C p).1 = .loc v off → v ≠ u

theorem mem_tmps {o : Oper} {k : Nat} (h : .tmp k ∈ o.op.operands.toList) : k ∈ opTmps o ops := by
  simp only [opTmps, List.mem_append, List.mem_filterMap]
  exact .inl ⟨.tmp k, h, rfl⟩

theorem swap_st {nx ny : Bool} {x y : Oper} {k u off : Nat} (hxy : ∀ t, x.dst = some t → t ∉ opTmps y ops ∧ y.dst ≠ some t) (hyx : ∀ t, y.dst = some t → t ∉ opTmps x ops ∧ x.dst ≠ some t)
    (hx : stPtr x.op = some k) (hu : (s.ev C (.tmp k)).1 = .loc u off) (hy : softOp C f y = true) (hel : Elsewhere C s u y)
    (h1 : stepA C call f nx ops s x = some s1) (h2 : stepA C call f ny ops s1 y = some s2) : ∃ s', stepA C call f ny ops s y = some s' ∧ stepA C call f nx ops s' x = some s2 := by
  have hk2 : opKind C f y.dst y.op ≤ 2 ∧ isNew C y.op = false := by
    simp only [softOp, Bool.and_eq_true, decide_eq_true_eq, Bool.not_eq_true'] at hy
    exact hy.1
  unfold stepA at h1
  split at h1
  · rename_i hwx
    rw [Option.map_eq_some_iff] at h1
    obtain ⟨d, hd, rfl⟩ := h1
    obtain ⟨c', rfl, hfr⟩ := store_own hx hu hd
    have htm : ∀ j ∈ opTmps y ops, s.tm[j]? = ((Dl.los (s.lo.set u (some c')) (.undef, .none)).apply s x.dst).tm[j]? := fun j hj => (los_tm fun e => (hxy j e).1 hj).symm
    have back : ∀ dy, Soft dy → wantedA ops s y = some true ∨ wantedA ops s y = some false → stepA C call f nx ops (dy.apply s y.dst) x = some ((Dl.los (s.lo.set u (some c')) (.undef, .none)).apply (dy.apply s y.dst) x.dst) := by
      intro dy hdy _
      have htm2 : ∀ j ∈ opTmps x ops, (dy.apply s y.dst).tm[j]? = s.tm[j]? := fun j hj => apply_tm (soft_mild hdy) fun e => (hyx j e).1 hj
      have := hfr (dy.apply s y.dst) (ev_frame htm2) (by rw [soft_lo hdy])
      unfold stepA
      rw [wantedA_frame htm2, hwx]
      simp only [this, Option.map_some]
      rw [soft_lo hdy]
    rcases stepA_soft hy h2 with ⟨dy, hw, hdy, rfl, hsy⟩ | ⟨hw, rfl⟩
    · have hw' : wantedA ops s y = some true := by rw [wantedA_frame htm]; exact hw
      have hdy' : evD C call f ny (s.ev C) s.lo s.sg y some = some dy := by
        refine evD_frame hk2.1 hdy (ev_frame htm) ?_ (fun hn => by rw [hk2.2] at hn; cases hn) (by rw [los_lo]; simp) (.inr los_sg.symm)
        rintro v ⟨lt, z, off', hop, hzv⟩
        have hz : z ∈ y.op.operands.toList := by rw [hop]; simp [Op.operands]
        have hne : v ≠ u := hel lt z off' v hop (by rw [ev_frame htm z hz]; exact hzv)
        rw [los_lo]
        simp only [List.getD_eq_getElem?_getD, List.getElem?_set]
        rw [if_neg fun e => hne e.symm]
      refine ⟨dy.apply s y.dst, by unfold stepA; rw [hw']; simp [hdy'], ?_⟩
      rw [back dy hsy (.inl hw'), soft_comm hsy fun t ht e => (hyx t ht).2 e]
    · have hw' : wantedA ops s y = some false := by rw [wantedA_frame htm]; exact hw
      have hs0 : Soft (Dl.val (.undef, .none)) := .inl ⟨_, rfl⟩
      refine ⟨(Dl.val (.undef, .none)).apply s y.dst, by unfold stepA; rw [hw']; rfl, ?_⟩
      rw [back _ hs0 (.inr hw'), soft_comm hs0 fun t ht e => (hyx t ht).2 e]
  · rename_i hwx
    cases h1
    have hm0 : Mild (Dl.val (.undef, .none)) := .inl ⟨_, rfl⟩
    have htm : ∀ j ∈ opTmps y ops, s.tm[j]? = ((Dl.val (.undef, .none)).apply s x.dst).tm[j]? := fun j hj => (apply_tm hm0 fun e => (hxy j e).1 hj).symm
    have back : ∀ dy, Soft dy → stepA C call f nx ops (dy.apply s y.dst) x = some ((Dl.val (.undef, .none)).apply (dy.apply s y.dst) x.dst) := by
      intro dy hdy
      have htm2 : ∀ j ∈ opTmps x ops, (dy.apply s y.dst).tm[j]? = s.tm[j]? := fun j hj => apply_tm (soft_mild hdy) fun e => (hyx j e).1 hj
      unfold stepA
      rw [wantedA_frame htm2, hwx]
      rfl
    have lo0 : ((Dl.val (.undef, .none)).apply s x.dst).lo = s.lo := soft_lo (.inl ⟨_, rfl⟩)
    rcases stepA_soft hy h2 with ⟨dy, hw, hdy, rfl, hsy⟩ | ⟨hw, rfl⟩
    · have hw' : wantedA ops s y = some true := by rw [wantedA_frame htm]; exact hw
      have hdy' : evD C call f ny (s.ev C) s.lo s.sg y some = some dy :=
        evD_frame hk2.1 hdy (ev_frame htm) (fun v _ => by rw [← lo0]; rfl) (fun hn => by rw [hk2.2] at hn; cases hn) (by rw [← lo0]; rfl) (.inr (apply_sg hm0 (fun _ _ e => by cases e)).symm)
      refine ⟨dy.apply s y.dst, by unfold stepA; rw [hw']; simp [hdy'], ?_⟩
      rw [back dy hsy]
      congr 1
      exact apply_comm (soft_mild hsy) hm0 (fun t ht e => (hyx t ht).2 e) (.inr fun _ _ e => by cases e)
    · have hw' : wantedA ops s y = some false := by rw [wantedA_frame htm]; exact hw
      have hs0 : Soft (Dl.val (.undef, .none)) := .inl ⟨_, rfl⟩
      refine ⟨(Dl.val (.undef, .none)).apply s y.dst, by unfold stepA; rw [hw']; rfl, ?_⟩
      rw [back _ hs0]
      congr 1
      exact apply_comm hm0 hm0 (fun t ht e => (hyx t ht).2 e) (.inr fun _ _ e => by cases e)
  · cases h1

/-- the other way about: the store stands behind -/
theorem swap_ts {nx ny : Bool} {x y : Oper} {k u off : Nat} (hxy : ∀ t, x.dst = some t → t ∉ opTmps y ops ∧ y.dst ≠ some t) (hyx : ∀ t, y.dst = some t → t ∉ opTmps x ops ∧ x.dst ≠ some t)
    (hy : stPtr y.op = some k) (hu : (s.ev C (.tmp k)).1 = .loc u off) (hx : softOp C f x = true) (hel : Elsewhere C s u x)
    (h1 : stepA C call f nx ops s x = some s1) (h2 : stepA C call f ny ops s1 y = some s2) : ∃ s', stepA C call f ny ops s y = some s' ∧ stepA C call f nx ops s' x = some s2 := by
  have hk2 : opKind C f x.dst x.op ≤ 2 ∧ isNew C x.op = false := by
    simp only [softOp, Bool.and_eq_true, decide_eq_true_eq, Bool.not_eq_true'] at hx
    exact hx.1
  -- y, as it runs behind a soft deed
  have hyk : .tmp k ∈ y.op.operands.toList := by
    obtain ⟨t, v, hop⟩ := stPtr_some hy
    rw [hop]; simp [Op.operands]
  have key : ∀ dx, Soft dx → s1 = dx.apply s x.dst → (∀ c', stepA C call f nx ops ((Dl.los (s.lo.set u (some c')) (.undef, .none)).apply s y.dst) x = some (dx.apply ((Dl.los (s.lo.set u (some c')) (.undef, .none)).apply s y.dst) x.dst)) →
      stepA C call f nx ops ((Dl.val (.undef, .none)).apply s y.dst) x = some (dx.apply ((Dl.val (.undef, .none)).apply s y.dst) x.dst) →
      ∃ s', stepA C call f ny ops s y = some s' ∧ stepA C call f nx ops s' x = some s2 := by
    intro dx hdx e1 hb1 hb2
    subst e1
    have htm : ∀ j ∈ opTmps y ops, s.tm[j]? = (dx.apply s x.dst).tm[j]? := fun j hj => (apply_tm (soft_mild hdx) fun e => (hxy j e).1 hj).symm
    unfold stepA at h2
    split at h2
    · rename_i hw
      rw [Option.map_eq_some_iff] at h2
      obtain ⟨d, hd, rfl⟩ := h2
      have hev := ev_frame (C := C) htm
      obtain ⟨c', rfl, hfr⟩ := store_own (s := dx.apply s x.dst) hy (by rw [← hev _ hyk]; exact hu) hd
      have := hfr s hev (by rw [soft_lo hdx])
      refine ⟨(Dl.los (s.lo.set u (some c')) (.undef, .none)).apply s y.dst, by unfold stepA; rw [wantedA_frame htm, hw]; simp only [this, Option.map_some], ?_⟩
      rw [hb1, soft_lo hdx, soft_comm hdx fun t ht e => (hxy t ht).2 e]
    · rename_i hw
      cases h2
      refine ⟨(Dl.val (.undef, .none)).apply s y.dst, by unfold stepA; rw [wantedA_frame htm, hw]; rfl, ?_⟩
      rw [hb2]
      congr 1
      exact (apply_comm (soft_mild hdx) (.inl ⟨_, rfl⟩) (fun t ht e => (hxy t ht).2 e) (.inr fun _ _ e => by cases e)).symm
    · cases h2
  rcases stepA_soft hx h1 with ⟨dx, hw, hdx, e1, hsx⟩ | ⟨hw, e1⟩
  · refine key dx hsx e1 (fun c' => ?_) ?_
    · have htm : ∀ j ∈ opTmps x ops, ((Dl.los (s.lo.set u (some c')) (.undef, .none)).apply s y.dst).tm[j]? = s.tm[j]? := fun j hj => los_tm fun e => (hyx j e).1 hj
      have : evD C call f nx (((Dl.los (s.lo.set u (some c')) (.undef, .none)).apply s y.dst).ev C) ((Dl.los (s.lo.set u (some c')) (.undef, .none)).apply s y.dst).lo ((Dl.los (s.lo.set u (some c')) (.undef, .none)).apply s y.dst).sg x some = some dx := by
        refine evD_frame hk2.1 hdx (ev_frame htm) ?_ (fun hn => by rw [hk2.2] at hn; cases hn) (by rw [los_lo]; simp) (.inr los_sg)
        rintro v ⟨lt, z, off', hop, hzv⟩
        have hne : v ≠ u := hel lt z off' v hop hzv
        rw [los_lo]
        simp only [List.getD_eq_getElem?_getD, List.getElem?_set]
        rw [if_neg fun e => hne e.symm]
      unfold stepA
      rw [wantedA_frame htm, hw]
      simp [this]
    · have hm0 : Mild (Dl.val (.undef, .none)) := .inl ⟨_, rfl⟩
      have htm : ∀ j ∈ opTmps x ops, ((Dl.val (.undef, .none)).apply s y.dst).tm[j]? = s.tm[j]? := fun j hj => apply_tm hm0 fun e => (hyx j e).1 hj
      have lo0 : ((Dl.val (.undef, .none)).apply s y.dst).lo = s.lo := soft_lo (.inl ⟨_, rfl⟩)
      have : evD C call f nx (((Dl.val (.undef, .none)).apply s y.dst).ev C) ((Dl.val (.undef, .none)).apply s y.dst).lo ((Dl.val (.undef, .none)).apply s y.dst).sg x some = some dx :=
        evD_frame hk2.1 hdx (ev_frame htm) (fun v _ => by rw [lo0]) (fun hn => by rw [hk2.2] at hn; cases hn) (by rw [lo0]) (.inr (apply_sg hm0 fun _ _ e => by cases e))
      unfold stepA
      rw [wantedA_frame htm, hw]
      simp [this]
  · refine key _ (.inl ⟨_, rfl⟩) e1 (fun c' => ?_) ?_
    · have htm : ∀ j ∈ opTmps x ops, ((Dl.los (s.lo.set u (some c')) (.undef, .none)).apply s y.dst).tm[j]? = s.tm[j]? := fun j hj => los_tm fun e => (hyx j e).1 hj
      unfold stepA
      rw [wantedA_frame htm, hw]
      rfl
    · have htm : ∀ j ∈ opTmps x ops, ((Dl.val (.undef, .none)).apply s y.dst).tm[j]? = s.tm[j]? := fun j hj => apply_tm (.inl ⟨_, rfl⟩) fun e => (hyx j e).1 hj
      unfold stepA
      rw [wantedA_frame htm, hw]
      rfl

theorem ev_clear (t : Nat) (k : Nat) : (s.clear t).ev C (.tmp k) = clearE t (s.ev C (.tmp k)) := by
  simp only [St.ev, St.clear, List.getD_eq_getElem?_getD, clearL_get]
  cases s.tm[k]? with
  | none => rfl
  | some e => rfl

def mapD (t : Nat) : Dl → Dl
  | .val e => .val (clearE t e)
  | .sig sg e => .sig sg (clearE t e)
  | .box cells => .box (clearL t cells)
  | d => d

theorem handsOn_clear (t : Nat) (e : Ent) : handsOn (clearE t e).1 = handsOn e.1 := by
  obtain ⟨x, o⟩ := e
  cases x <;> rfl

theorem asShp_mapD (t : Nat) (p : Shp) (d : Dat) : ((asShp p d fun d => some (Dl.val (.dat d, .none))).map (mapD t)) = asShp p d fun d => some (Dl.val (.dat d, .none)) := by
  cases h : (asShp p d fun d => some (Dl.val (.dat d, .none))) with
  | none => rfl
  | some r =>
    unfold asShp at h
    cases p <;> cases d <;> simp only [asInt, asBool, asStr, asSl] at h
    all_goals first
      | (cases h; done)
      | (cases h; rfl)
      | (have := (cond_any h).2; cases this; rfl)

theorem clearL_map (t : Nat) (l : List Ent) : clearL t l = l.map (clearE t) := by
  induction l with
  | nil => rfl
  | cons e l ih => simp [clearL, ih]

theorem datOf_clear (t : Nat) (e : Ent) : datOf (clearE t e) = (datOf e).map fun c => (c.1, cond (c.2.isId t) .none c.2) := by
  obtain ⟨x, o⟩ := e
  cases x <;> rfl

theorem datsOf_clear (t : Nat) : ∀ l : List Ent, datsOf (l.map (clearE t)) = (datsOf l).map fun ds => ds.map fun c => (c.1, cond (c.2.isId t) .none c.2)
  | [] => rfl
  | e :: l => by
    rw [List.map_cons]
    unfold datsOf
    rw [datOf_clear, datsOf_clear t l]
    cases datOf e with
    | none => rfl
    | some d => cases datsOf l <;> rfl

theorem cellsAt_mapD (t : Nat) : ∀ (ps : List Shp) (e : List Dat) (j : Nat) (F : List Dat → Option Dl), (∀ ds, (F ds).map (mapD t) = F ds) → (cellsAt ps e j F).map (mapD t) = cellsAt ps e j F
  | [], e, j, F, h => h []
  | p :: ps, e, j, F, h => by
    unfold cellsAt cellAt
    split
    · rename_i d hd
      have key : ∀ G : Dat → Option Dl, (∀ d, (G d).map (mapD t) = G d) → (asShp p d G).map (mapD t) = asShp p d G := by
        intro G hG
        cases hs : asShp p d G with
        | none => rfl
        | some r =>
          have := asShp_some hs
          have h2 := hG d
          rw [this] at h2
          exact h2
      exact key _ fun d => cellsAt_mapD t ps e (j + 1) _ fun ds => h _
    · rfl

theorem load_clear {ns : Bool} {t ty : Nat} {p : Nat} (h1 : oneCell C ty = true) :
    (loadA C ns (s.clear t).lo s.sg ty ((s.clear t).ev C (.tmp p)).1 fun e => some (Dl.val e)) = (loadA C ns s.lo s.sg ty (s.ev C (.tmp p)).1 fun e => some (Dl.val e)).map (mapD t) := by
  rw [ev_clear]
  generalize s.ev C (.tmp p) = e
  obtain ⟨x, o⟩ := e
  unfold loadA
  split
  · rename_i size d0 hsz hu
    cases x <;> simp only [clearE] <;> try rfl
    case loc u off =>
      show (match (clearB t s.lo).getD u none with | some cells => _ | none => _) = _
      rw [clearB_get]
      cases s.lo.getD u none with
      | none => rfl
      | some cells =>
        simp only [Option.map_some]
        cases isAggT C.P ty with
        | true =>
          simp only [cond_true]
          rw [clearL_length, clearL_map, ← List.map_drop, ← List.map_take, datsOf_clear]
          cases decide (off + size ≤ cells.length) with
          | false => rfl
          | true =>
            simp only [cond_true]
            cases datsOf (List.take size (List.drop off cells)) <;> rfl
        | false =>
          simp only [cond_false]
          rw [clearL_get]
          cases cells[off]? with
          | none => rfl
          | some e =>
            simp only [Option.map_some, handsOn_clear]
            cases handsOn e.1 <;> rfl
    case imm cells =>
      split
      · rename_i ps hps
        cases isAggT C.P ty with
        | true =>
          simp only [cond_true]
          cases (ps.length == size) with
          | false => rfl
          | true =>
            simp only [cond_true]
            refine (cellsAt_mapD t ps cells 0 _ fun ds => ?_).symm
            show some (Dl.val (clearE t (.agg (ds.map fun x => (x, Own.none)), .none))) = _
            simp only [clearE, List.map_map]
            rfl
        | false =>
          simp only [cond_false]
          split
          · unfold cellAt
            split
            · exact (asShp_mapD t _ _).symm
            · rfl
          · rfl
      · rfl
    case ref i off =>
      cases ns with
      | true => rfl
      | false =>
        simp only [cond_false, sgBox]
        split
        · rename_i l _
          cases hagg : isAggT C.P ty with
          | true =>
            simp only [cond_true]
            cases decide (off + size ≤ l.length) with
            | false => rfl
            | true =>
              simp only [cond_true]
              cases datsV (List.take size (List.drop off l)) with
              | none => rfl
              | some ds =>
                show some (Dl.val (.agg (ds.map fun x => (x, Own.none)), .none)) = some (Dl.val (clearE t (.agg (ds.map fun x => (x, Own.none)), .none)))
                simp only [clearE, List.map_map]
                rfl
          | false =>
            simp only [cond_false, cellA]
            split
            · rename_i a ha
              unfold decVal
              unfold oneCell at h1
              split at h1
              · cases h1
              · rename_i ps hps hne
                rw [hagg]
                simp only [cond_false]
                split
                · unfold asDat
                  split
                  · exact (asShp_mapD t _ _).symm
                  · rfl
                · rfl
              · cases h1
            · rfl
        · rfl
  · rfl

def idxE (C : Cfg) (t : TypeId) (x i : AVal) : Option Dl :=
  match C.P.underlying t, x, i with
  | some (.slice e), .dat (.sl es), .dat (.int _ n) => (match sizeT C.P e with
    | some z => elemAt es n fun c => cond (c.length == z) (some (.val (.imm c, .none))) none
    | none => none)
  | some (.array len e), p, .dat (.int _ n) => (match sizeT C.P e with
    | some z => cond (decide (0 ≤ n) && decide (n < len)) (match p with
      | .loc u off => splitN len 0 n.toNat fun k => some (.val (.loc u (off + k * z), .none))
      | .imm cs => some (.val (.imm (cs.drop (n.toNat * z)), .none))
      | .ref u off => some (.val (.ref u (off + n.toNat * z), .none))
      | _ => none) none
    | none => none)
  | _, _, _ => none

/-! ### marks that are struck -/
theorem constCell_mark {v : Value} {c : Dat × Own} (h : constCell v = some c) (t : Nat) : c.2.isId t = false := by
  cases v <;> simp only [constCell] at h <;> (try cases h) <;> (try rfl)
  case slice a n m =>
    cases a with
    | some a => simp [constCell] at h
    | none =>
      cases n with
      | succ n => simp [constCell] at h
      | zero => cases m with
        | succ m => simp [constCell] at h
        | zero => cases h; rfl
  case pointer a =>
    cases a with
    | some a => simp [constCell] at h
    | none => cases h; rfl
theorem constCells_mark : ∀ {vs : List Value} {cs : List (Dat × Own)}, constCells vs = some cs → ∀ (t : Nat), ∀ c ∈ cs, c.2.isId t = false
  | [], cs, h, t, c, hc => by cases h; cases hc
  | v :: vs, cs, h, t, c, hc => by
    simp only [constCells, Option.bind_eq_some_iff, Option.map_eq_some_iff] at h
    obtain ⟨d, hd, ds, hds, rfl⟩ := h
    rcases List.mem_cons.1 hc with rfl | hc
    · exact constCell_mark hd t
    · exact constCells_mark hds t c hc
theorem clear_cells {cs : List (Dat × Own)} {t : Nat} (h : ∀ c ∈ cs, c.2.isId t = false) : cs.map (fun c => (c.1, cond (c.2.isId t) Own.none c.2)) = cs := by
  induction cs with
  | nil => rfl
  | cons c cs ih =>
    rw [List.map_cons, ih fun c hc => h c (List.mem_cons_of_mem _ hc), h c (List.mem_cons_self ..)]
    rfl
theorem constOf_clear (t : Nat) (v : Value) : clearE t (constOf v) = constOf v := by
  unfold constOf
  split
  · split
    · rename_i l hl
      simp only [clearE]
      rw [clear_cells fun c hc => constCells_mark hl t c hc]
      rfl
    · rfl
  · split
    · rename_i d o hd
      simp only [clearE]
      rw [show o.isId t = false from constCell_mark hd t]
      rfl
    · rfl
theorem evc (t : Nat) (p : Operand) : (s.clear t).ev C p = clearE t (s.ev C p) := by
  cases p with
  | tmp k => exact ev_clear t k
  | const v => exact (constOf_clear t v).symm
  | global g =>
    show (match C.glob g with | some cells => _ | none => _) = clearE t (match C.glob g with | some cells => _ | none => _)
    cases C.glob g <;> rfl
  | func g => rfl

theorem cond_mapD (u : Nat) (b : Bool) (x : Option Dl) : (cond b x none).map (mapD u) = cond b (x.map (mapD u)) none := by cases b <;> rfl

theorem idxE_val (C : Cfg) (t : TypeId) (x i : AVal) (u : Nat) : (idxE C t x i).map (mapD u) = idxE C t x i := by
  unfold idxE
  split
  · split
    · unfold elemAt
      rw [cond_mapD]
      congr 1
      split
      · rw [cond_mapD]; rfl
      · rfl
    · rfl
  · split
    · rw [cond_mapD]
      congr 1
      split
      · rw [splitN_map]; rfl
      · rfl
      · rfl
      · rfl
    · rfl
  · rfl

theorem idxE_clear (C : Cfg) (t : TypeId) (u : Nat) (x : Ent) (i : AVal) : idxE C t (clearE u x).1 i = idxE C t x.1 i := by
  obtain ⟨a, o⟩ := x
  unfold idxE
  generalize C.P.underlying t = ut
  cases a <;> first
    | rfl
    | (cases ut with
       | none => rfl
       | some d => cases d <;> first | rfl | (cases i <;> first | rfl | (rename_i dd; cases dd <;> rfl)))

theorem idxE_clear2 (C : Cfg) (t : TypeId) (u : Nat) (x : AVal) (i : Ent) : idxE C t x (clearE u i).1 = idxE C t x i.1 := by
  obtain ⟨a, o⟩ := i
  unfold idxE
  generalize C.P.underlying t = ut
  cases a <;> first
    | rfl
    | (cases ut with
       | none => rfl
       | some d => cases d <;> first | rfl | (cases x <;> first | rfl | (rename_i dd; cases dd <;> rfl)))

theorem boundA_clear {β : Type} (t : Nat) (x : Option Operand) (d : Int) (F : Int → Option β) : boundA ((s.clear t).ev C) x d F = boundA (s.ev C) x d F := by
  unfold boundA
  cases x with
  | none => rfl
  | some o =>
    simp only [evc]
    generalize s.ev C o = e
    obtain ⟨a, ow⟩ := e
    cases a <;> rfl
theorem boundA_map {β γ : Type} (ev : Operand → Ent) (x : Option Operand) (d : Int) (F : Int → Option β) (G : β → γ) : (boundA ev x d F).map G = boundA ev x d fun n => (F n).map G := by
  unfold boundA
  cases x with
  | none => rfl
  | some o =>
    simp only
    generalize (ev o).1 = a
    cases a with
    | dat d => cases d <;> rfl
    | _ => rfl

theorem plain_clear {ns : Bool} {o : Oper} (t : Nat) (hp : plainOp C o = true) :
    evD C call f ns ((s.clear t).ev C) (s.clear t).lo (s.clear t).sg o some = (evD C call f ns (s.ev C) s.lo s.sg o some).map (mapD t) := by
  simp only [plainOp, Bool.and_eq_true] at hp
  obtain ⟨_, hp⟩ := hp
  unfold evD
  split at hp
  · rename_i k hop; rw [hop]; simp only [ev_clear]; rfl
  · rename_i k hop; rw [hop]; simp only [ev_clear]; rfl
  · rename_i ty k i hop
    rw [hop]; simp only [ev_clear]
    generalize s.ev C (.tmp k) = e
    obtain ⟨x, ow⟩ := e
    split
    · split
      · rename_i n hn
        cases (n == 0) with
        | true => rfl
        | false => cases x <;> rfl
      · rfl
    · rfl
  · rename_i ty k i hop
    rw [hop]; simp only [ev_clear]
    show idxE C ty (clearE t (s.ev C (.tmp k))).1 (clearE t (s.ev C (.tmp i))).1 = (idxE C ty (s.ev C (.tmp k)).1 (s.ev C (.tmp i)).1).map (mapD t)
    rw [idxE_clear, idxE_clear2, idxE_val]
  · rename_i ty k v hop
    rw [hop]; simp only [ev_clear]
    show idxE C ty (clearE t (s.ev C (.tmp k))).1 (s.ev C (.const v)).1 = (idxE C ty (s.ev C (.tmp k)).1 (s.ev C (.const v)).1).map (mapD t)
    rw [idxE_clear, idxE_val]
  · rename_i ty k hop
    rw [hop]
    exact load_clear hp
  · rename_i ty x lo hi mx hop
    rw [hop]; simp only [evc, boundA_clear]
    generalize s.ev C x = e
    obtain ⟨a, ow⟩ := e
    generalize C.P.underlying ty = ut
    cases a <;> first
      | rfl
      | (cases ut with
         | none => rfl
         | some d => cases d <;> rfl)
      | skip
    rename_i dd
    cases ut with
    | none => rfl
    | some d =>
      cases d <;> (try rfl) <;> cases dd <;> (try rfl)
      · simp only [clearE, boundA_map, cond_mapD]
        rfl
      · simp only [clearE, boundA_map]
        congr 1; funext l
        congr 1; funext h
        congr 1; funext m
        split
        · rw [cond_mapD]
          congr 1
          cases mx <;> rfl
        · rfl
  · cases hp

theorem plain_val {ns : Bool} {o : Oper} {d : Dl} (hp : plainOp C o = true) (h : evD C call f ns (s.ev C) s.lo s.sg o some = some d) : ∃ e, d = .val e := by
  simp only [plainOp, Bool.and_eq_true] at hp
  obtain ⟨_, hp⟩ := hp
  have hk : opKind C f o.dst o.op ≤ 1 ∧ isNew C o.op = false := by
    split at hp
    · rename_i k hop; rw [hop]; exact ⟨by simp [opKind], rfl⟩
    · rename_i k hop; rw [hop]; exact ⟨by simp [opKind], rfl⟩
    · rename_i k hop; rw [hop]; exact ⟨by simp [opKind], rfl⟩
    · rename_i k hop; rw [hop]; exact ⟨by simp [opKind], rfl⟩
    · rename_i k hop; rw [hop]; exact ⟨by simp [opKind], rfl⟩
    · rename_i k hop; rw [hop]; exact ⟨by simp [opKind], rfl⟩
    · rename_i k hop; rw [hop]; exact ⟨by simp [opKind], rfl⟩
    · cases hp
  rcases evD_kind (by omega) (ev_func C s) h with h | ⟨_, _, h⟩ | ⟨_, _, _, h, _⟩
  · exact h
  · rw [hk.2] at h; cases h
  · omega

theorem grow_deed {ns : Bool} {o : Oper} {d : Dl} (hg : growOp C o = true) (h : evD C call f ns (s.ev C) s.lo s.sg o some = some d) : ∃ u e, d = .clr u e := by
  simp only [growOp, Bool.and_eq_true] at hg
  obtain ⟨_, hg⟩ := hg
  unfold evD at h
  split at hg
  · rename_i a b c hop
    rw [hop] at h
    simp only at h
    split at h
    · split at h
      · have := (cond_any h).2
        have hb : (b == 1) = false := by simpa using hg
        rw [hb] at this
        split at this
        · cases this; exact ⟨_, _, rfl⟩
        · cases this
      · cases h
    · cases h
  · rename_i a b hop
    rw [hop] at h
    simp only at h
    split at h
    · unfold appendA at h
      split at h
      · split at h
        · split at h
          · have := (cond_any h).2
            split at this
            · have := (cond_any this).2
              cases this; exact ⟨_, _, rfl⟩
            · cases this; exact ⟨_, _, rfl⟩
            · cases this
          · cases h
        · cases h
      · cases h
    · cases h
  · rename_i g a b hop
    simp only [Bool.and_eq_true] at hg
    rw [hop] at h
    simp only at h
    have n1 : nilGrowOf C (.func g) a.toList = none := by
      cases hx : nilGrowOf C (.func g) a.toList with
      | none => rfl
      | some p =>
        obtain ⟨g', e, _, hz⟩ := nilGrowOf_some (p := p) hx
        cases e
        rw [hz] at hg
        simp at hg
    have n2 : ownArgOf C (.func g) a.toList = none := by
      cases hx : ownArgOf C (.func g) a.toList with
      | none => rfl
      | some p =>
        obtain ⟨e, _, hz⟩ := ownArgOf_some (p := p) hx
        cases e
        rw [hz] at hg
        simp at hg
    rw [n1, n2] at h
    simp only [ev_func] at h
    obtain ⟨_, h⟩ := cond_any h
    unfold callA at h
    split at h
    · cases hh : (!handsAll _ || _ || (C.ownArg g).isSome) with
      | true => rw [hh] at h; cases h
      | false =>
        rw [hh, cond_false] at h
        cases hpl : (plainL _ && _) with
        | true =>
          rw [hpl, cond_true] at h
          simp only [Option.bind_eq_some_iff] at h
          obtain ⟨⟨rs, sg'⟩, hc, h⟩ := h
          obtain ⟨es, h1, h2⟩ := decVals_hands h
          split at h1
          · have := (cond_any h1).2
            cases this; exact ⟨_, _, rfl⟩
          · rename_i hi; rw [hi] at hg; simp at hg
        | false =>
          rw [hpl, cond_false, hg.1.1, Bool.or_true, cond_true] at h
          cases h
    · cases h
  · cases hg

theorem grow_frame {ns : Bool} {o : Oper} {s' : St} (hg : growOp C o = true) (hev : ∀ x ∈ o.op.operands.toList, s'.ev C x = s.ev C x) :
    evD C call f ns (s'.ev C) s'.lo s'.sg o some = evD C call f ns (s.ev C) s.lo s.sg o some := by
  simp only [growOp, Bool.and_eq_true] at hg
  obtain ⟨_, hg⟩ := hg
  unfold evD
  split at hg
  · rename_i a b c hop
    rw [hop] at hev ⊢
    have hp : ∀ p ∈ c.toList, s'.ev C p.2 = s.ev C p.2 := fun p hp => hev p.2 (by simp only [Op.operands]; simpa using ⟨p.1, by simpa using hp⟩)
    simp only [fillA_congr hp]
  · rename_i a b hop
    rw [hop] at hev ⊢
    simp only [Op.operands] at hev
    simp only
    cases ha : a.toList with
    | nil => rfl
    | cons x r => cases r with
      | nil => rfl
      | cons y r => cases r with
        | nil =>
          simp only
          have hm : ∀ z ∈ a.toList, z ∈ (({ callee := Callee.builtin Builtin.append, args := a, argTypes := b } : Call).operands).toList := fun z hz => by simpa [Call.operands] using hz
          rw [hev x (hm x (by simp [ha])), hev y (hm y (by simp [ha]))]
        | cons z r => rfl
  · rename_i g a b hop
    simp only [Bool.and_eq_true] at hg
    rw [hop] at hev ⊢
    simp only [Op.operands] at hev
    simp only
    have n1 : nilGrowOf C (.func g) a.toList = none := by
      cases hx : nilGrowOf C (.func g) a.toList with
      | none => rfl
      | some p =>
        obtain ⟨g', e, _, hz⟩ := nilGrowOf_some (p := p) hx
        cases e
        rw [hz] at hg
        simp at hg
    have n2 : ownArgOf C (.func g) a.toList = none := by
      cases hx : ownArgOf C (.func g) a.toList with
      | none => rfl
      | some p =>
        obtain ⟨e, _, hz⟩ := ownArgOf_some (p := p) hx
        cases e
        rw [hz] at hg
        simp at hg
    have hm : ∀ z ∈ a.toList, z ∈ (({ callee := Callee.value (.func g), args := a, argTypes := b } : Call).operands).toList := fun z hz => by simp [Call.operands]; exact .inr (by simpa using hz)
    have ha : a.toList.map (fun x => (s'.ev C x).1) = a.toList.map (fun x => (s.ev C x).1) := List.map_congr_left fun x hx => by rw [hev x (hm x hx)]
    rw [n1, n2]
    simp only [ev_func]
    rw [ha]
    unfold callA
    rw [hg.1.1]
    simp only [Bool.or_true, cond_true]
  · cases hg

theorem clear_put (t : Nat) (d : Option Nat) (e : Ent) : (s.put d e).clear t = (s.clear t).put d (clearE t e) := by
  cases d with
  | none => rfl
  | some k =>
    simp only [St.put, St.clear]
    congr 1
    apply List.ext_getElem?
    intro i
    rw [clearL_get, List.getElem?_set, List.getElem?_set, clearL_length, clearL_get]
    split
    · split <;> rfl
    · rfl

theorem put_comm {x y : Option Nat} {e e' : Ent} (h : ∀ t, x = some t → y ≠ some t) : (s.put x e).put y e' = (s.put y e').put x e := by
  cases x with
  | none => rfl
  | some t => cases y with
    | none => rfl
    | some u =>
      simp only [St.put]
      rw [List.set_comm _ _ fun e => h t rfl (by rw [e])]

theorem wanted_noguard {o : Oper} (h : o.guard.isNone = true) : wantedA ops s o = some true := by
  unfold wantedA
  rw [Option.isNone_iff_eq_none.1 h]

theorem stepA_noguard {ns : Bool} {o : Oper} (h : o.guard.isNone = true) : stepA C call f ns ops s o = (evD C call f ns (s.ev C) s.lo s.sg o some).map fun d => d.apply s o.dst := by
  unfold stepA
  rw [wanted_noguard h]

theorem plainA_clear (t : Nat) (e : Ent) : plainA (clearE t e).1 = plainA e.1 := by
  obtain ⟨x, o⟩ := e
  cases x <;> rfl
theorem stripA_clear (t : Nat) (e : Ent) (h : handsOn e.1 = true) : stripA (clearE t e).1 = stripA e.1 := by
  obtain ⟨x, o⟩ := e
  cases x <;> first
    | rfl
    | (cases h; done)
    | (simp only [clearE, stripA, List.map_map]; rfl)
theorem hands_map (t : Nat) (as' : List Operand) : handsAll (as'.map fun x => ((s.clear t).ev C x).1) = handsAll (as'.map fun x => (s.ev C x).1) := by
  induction as' with
  | nil => rfl
  | cons x as' ih => simp only [List.map_cons, handsAll, evc, handsOn_clear]; rw [← ih]; simp only [evc]
theorem plain_map (t : Nat) (as' : List Operand) : plainL (as'.map fun x => ((s.clear t).ev C x).1) = plainL (as'.map fun x => (s.ev C x).1) := by
  induction as' with
  | nil => rfl
  | cons x as' ih => simp only [List.map_cons, plainL, evc, plainA_clear]; rw [← ih]; simp only [evc]
theorem strip_map (t : Nat) (as' : List Operand) (h : handsAll (as'.map fun x => (s.ev C x).1) = true) : (as'.map fun x => ((s.clear t).ev C x).1).map stripA = (as'.map fun x => (s.ev C x).1).map stripA := by
  induction as' with
  | nil => rfl
  | cons x as' ih =>
    simp only [List.map_cons, handsAll, Bool.and_eq_true] at h ⊢
    rw [ih h.2, evc, stripA_clear t _ h.1]

theorem callA_clear {ns : Bool} {dst : Option Nat} {g : FuncId} (t : Nat) (as' : List Operand) (K : Dl → Option Dl) :
    callA C call ns s.sg dst g (as'.map fun x => ((s.clear t).ev C x).1) K = callA C call ns s.sg dst g (as'.map fun x => (s.ev C x).1) K := by
  unfold callA
  rw [hands_map, plain_map]
  split
  · rename_i fn d _ _
    cases hh : handsAll (as'.map fun x => (s.ev C x).1) with
    | false => rfl
    | true => rw [strip_map t as' hh]
  · rfl

/-- a value that bears no mark but one -/
def Unmarked (t : Nat) (e : Ent) : Prop := clearE t e = e

theorem decVal_unmarked {β : Type} {P : Program} {ty : TypeId} {e : Ent} {F : Ent → Option β} {r : β} (hp : plainT P ty = true) (h : decVal P ty e F = some r) : ∃ e', F e' = some r ∧ e'.2 = .none ∧ (∀ vs, e'.1 ≠ .tup vs) ∧ ∀ o t, o.isId t = false → Unmarked t (e'.1, o) := by
  rcases decVal_cases h with ⟨cs, _, h⟩ | ⟨d, _, h⟩ | ⟨h0, h1, h⟩
  · refine ⟨_, h, rfl, (fun vs e => by cases e), fun o t ho => ?_⟩
    unfold Unmarked clearE
    simp only [List.map_map, ho, cond_false]
    rfl
  · refine ⟨_, h, rfl, (fun vs e => by cases e), fun o t ho => ?_⟩
    unfold Unmarked clearE
    simp only [ho, cond_false]
  · unfold plainT at hp
    rw [h0] at hp
    cases hp
theorem decVals_unmarked {β : Type} {P : Program} : ∀ {ts : List TypeId} {es : List Ent} {F : List Ent → Option β} {r : β}, ts.all (plainT P) = true → decVals P ts es F = some r →
    ∃ es', F es' = some r ∧ ∀ e ∈ es', e.2 = .none ∧ (∀ vs, e.1 ≠ .tup vs) ∧ ∀ o t, o.isId t = false → Unmarked t (e.1, o)
  | [], [], F, r, _, h => ⟨[], h, fun e he => by cases he⟩
  | [], _ :: _, F, r, _, h => by cases h
  | t :: ts, [], F, r, _, h => by cases h
  | t :: ts, e :: es, F, r, hp, h => by
    simp only [decVals] at h
    simp only [List.all_cons, Bool.and_eq_true] at hp
    obtain ⟨e', h1, h2⟩ := decVal_unmarked hp.1 h
    obtain ⟨es', h3, h4⟩ := decVals_unmarked hp.2 h1
    exact ⟨e' :: es', h3, fun x hx => by
      rcases List.mem_cons.1 hx with rfl | hx
      · exact h2
      · exact h4 x hx⟩
theorem joinE_unmarked {es : List Ent} (t : Nat) (h : ∀ e ∈ es, Unmarked t e ∧ e.2.isId t = false) : Unmarked t (joinE es) := by
  unfold joinE
  split
  · exact (h _ (by simp)).1
  · unfold Unmarked clearE
    simp only
    congr 2
    refine List.ext_getElem? fun i => ?_
    rw [List.getElem?_map]
    cases hi : es[i]? with
    | none => rfl
    | some e =>
      simp only [Option.map_some]
      rw [(h e (List.mem_of_getElem? hi)).2]
      rfl
theorem markAt_mem {o : Own} : ∀ {i : Nat} {es : List Ent} {e : Ent}, e ∈ markAt i o es → (e ∈ es) ∨ ∃ e0 ∈ es, e = (e0.1, o)
  | _, [], e, h => by simp [markAt] at h
  | 0, x :: es, e, h => by
    simp only [markAt, List.mem_cons] at h
    rcases h with rfl | h
    · exact .inr ⟨x, by simp, rfl⟩
    · exact .inl (by simp [h])
  | i + 1, x :: es, e, h => by
    simp only [markAt, List.mem_cons] at h
    rcases h with rfl | h
    · exact .inl (by simp)
    · rcases markAt_mem h with h | ⟨e0, h0, h⟩
      · exact .inl (by simp [h])
      · exact .inr ⟨e0, by simp [h0], h⟩

theorem isNone_of {α β : Type} {x : Option α} (h : x.isNone = true) : x = none := Option.isNone_iff_eq_none.1 h
theorem grow_none {g : FuncId} {as' : List Operand} (h : (C.nilGrow g).isNone = true) : nilGrowOf C (.func g) as' = none := by
  cases hx : nilGrowOf C (.func g) as' with
  | none => rfl
  | some p =>
    obtain ⟨g', e, _, hz⟩ := nilGrowOf_some (p := p) hx
    cases e
    rw [hz] at h
    simp at h
theorem own_none {g : FuncId} {as' : List Operand} (h : (C.ownArg g).isNone = true) : ownArgOf C (.func g) as' = none := by
  cases hx : ownArgOf C (.func g) as' with
  | none => rfl
  | some p =>
    obtain ⟨e, _, hz⟩ := ownArgOf_some (p := p) hx
    cases e
    rw [hz] at h
    simp at h

/-- what a call comes to, where results are plain -/
theorem callA_deed {ns : Bool} {dst : Option Nat} {g : FuncId} {args : List AVal} {d : Dl} (hpl : (match C.P.funcs[g]? with | some fn => fn.resultTypes.toList.all (plainT C.P) | none => false) = true)
    (h : callA C call ns s.sg dst g args some = some d) :
    (C.ownRes g = none ∧ ((∃ e, d = .val e ∧ ∀ t, Unmarked t e) ∨ ∃ sg e, d = .sig sg e ∧ ∀ t, Unmarked t e)) ∨ ((C.ownRes g).isSome = true ∧ ∃ k e, dst = some k ∧ d = .clr (8 * k) e ∧ ∀ t, t ≠ 8 * k → Unmarked t e) := by
  unfold callA at h
  split at h
  · rename_i fn k hfn
    rw [hfn] at hpl
    simp only at hpl
    have hun : ∀ {es : List Ent}, (∀ e ∈ es, e.2 = .none ∧ (∀ vs, e.1 ≠ .tup vs) ∧ ∀ o t, o.isId t = false → Unmarked t (e.1, o)) → ∀ t, Unmarked t (joinE es) := fun h2 t => joinE_unmarked t fun e he => by
      obtain ⟨h3, _, h4⟩ := h2 e he
      have := h4 .none t rfl
      rw [← h3] at this
      exact ⟨this, by rw [h3]; rfl⟩
    cases hh : (!handsAll args || fn.body.isNone || (C.ownArg g).isSome) with
    | true => rw [hh] at h; cases h
    | false =>
      rw [hh, cond_false] at h
      cases hp : (plainL args && fn.resultTypes.toList.all (plainT C.P)) with
      | true =>
        rw [hp, cond_true] at h
        simp only [Option.bind_eq_some_iff] at h
        obtain ⟨⟨rs, sg'⟩, hc, h⟩ := h
        obtain ⟨es, h1, h2⟩ := decVals_unmarked hpl h
        split at h1
        · rename_i i n hi
          have h1 := (cond_any h1).2
          cases h1
          refine .inr ⟨by rw [hi]; rfl, k, _, rfl, rfl, fun t ht => joinE_unmarked t fun e he => ?_⟩
          have hid : (Own.id (8 * k) n).isId t = false := by
            show (8 * k == t) = false
            rw [beq_eq_false_iff_ne]; omega
          rcases markAt_mem he with he | ⟨e0, h0, rfl⟩
          · obtain ⟨h3, _, h4⟩ := h2 e he
            have := h4 .none t rfl
            rw [← h3] at this
            exact ⟨this, by rw [h3]; rfl⟩
          · exact ⟨(h2 e0 h0).2.2 _ t hid, hid⟩
        · rename_i hi
          cases h1
          exact .inl ⟨hi, .inl ⟨_, rfl, hun h2⟩⟩
      | false =>
        rw [hp, cond_false] at h
        cases hns : (ns || (C.ownRes g).isSome) with
        | true => rw [hns] at h; cases h
        | false =>
          rw [hns, cond_false] at h
          simp only [Option.bind_eq_some_iff] at h
          obtain ⟨⟨rs, sg'⟩, hc, h⟩ := h
          obtain ⟨es, h1, h2⟩ := decVals_unmarked hpl h
          cases h1
          refine .inl ⟨?_, .inr ⟨_, _, rfl, hun h2⟩⟩
          cases hi : C.ownRes g with
          | none => rfl
          | some x => rw [hi] at hns; simp at hns
  · cases h

/-- what no mark concerns comes to the same, marks aside -/
theorem fillA_clear {ev ev' : Operand → Ent} {t : Nat} {place : Nat → Option (Nat × Nat)} (hev : ∀ p, ev' p = clearE t (ev p)) : ∀ (parts : List (Nat × Operand)) (cs : List (Dat × Own)),
    fillA ev' place (cs.map fun c => (c.1, cond (c.2.isId t) Own.none c.2)) parts = (fillA ev place cs parts).map fun l => l.map fun c => (c.1, cond (c.2.isId t) Own.none c.2)
  | [], cs => rfl
  | (i, x) :: rest, cs => by
    unfold fillA
    rw [hev x]
    have hds : (entCells (clearE t (ev x))).bind datsOf = ((entCells (ev x)).bind datsOf).map fun ds => ds.map fun c => (c.1, cond (c.2.isId t) Own.none c.2) := by
      generalize ev x = e
      obtain ⟨a, o⟩ := e
      cases a with
      | agg l =>
        show datsOf _ = (datsOf _).map _
        rw [← datsOf_clear, List.map_map, List.map_map]
        rfl
      | dat d => rfl
      | imm c => rfl
      | ref i off => rfl
      | clo fn a b => rfl
      | loc u off => rfl
      | tup vs => rfl
      | undef => rfl
      | junk => rfl
    rw [hds]
    cases place i with
    | none => rfl
    | some pq =>
      cases hd : (entCells (ev x)).bind datsOf with
      | none => rfl
      | some ds =>
        simp only [Option.map_some, List.length_map]
        cases hc : (ds.length == pq.2 && decide (pq.1 + pq.2 ≤ cs.length)) with
        | false => rfl
        | true =>
          simp only [cond_true]
          rw [← fillA_clear hev rest]
          simp only [List.map_append, List.map_take, List.map_drop]
theorem zeroCells_mark {ty : TypeId} {cs : List (Dat × Own)} (hz : zeroCells C.P ty = some cs) (t : Nat) : ∀ c ∈ cs, c.2.isId t = false := by
  simp only [zeroCells, Option.bind_eq_some_iff] at hz
  obtain ⟨_, _, hz⟩ := hz
  exact fun c hc => constCells_mark hz t c hc

theorem fillA_marks {ev ev' : Operand → Ent} {t : Nat} {place : Nat → Option (Nat × Nat)} (hev : ∀ p, ev' p = clearE t (ev p)) : ∀ (parts : List (Nat × Operand)) (cs cs' : List (Dat × Own)), cs'.map (·.1) = cs.map (·.1) →
    (fillA ev' place cs' parts).map (fun l => l.map (·.1)) = (fillA ev place cs parts).map fun l => l.map (·.1)
  | [], cs, cs', h => by simp only [fillA, Option.map_some, h]
  | (i, x) :: rest, cs, cs', h => by
    unfold fillA
    rw [hev x]
    have hds : (entCells (clearE t (ev x))).bind datsOf = ((entCells (ev x)).bind datsOf).map fun ds => ds.map fun c => (c.1, cond (c.2.isId t) Own.none c.2) := by
      generalize ev x = e
      obtain ⟨a, o⟩ := e
      cases a with
      | agg l =>
        show datsOf _ = (datsOf _).map _
        rw [← datsOf_clear, List.map_map, List.map_map]
        rfl
      | dat d => rfl
      | imm c => rfl
      | ref i off => rfl
      | clo fn a b => rfl
      | loc u off => rfl
      | tup vs => rfl
      | undef => rfl
      | junk => rfl
    rw [hds]
    cases place i with
    | none => rfl
    | some pq =>
      cases hd : (entCells (ev x)).bind datsOf with
      | none => rfl
      | some ds =>
        have hlen : cs'.length = cs.length := by simpa using congrArg List.length h
        simp only [Option.map_some, List.length_map, hlen]
        cases hc : (ds.length == pq.2 && decide (pq.1 + pq.2 ≤ cs.length)) with
        | false => rfl
        | true =>
          simp only [cond_true]
          refine fillA_marks hev rest _ _ ?_
          simp only [List.map_append, List.map_take, List.map_drop, h, List.map_map]
          rfl

theorem free_clear {ns : Bool} {o : Oper} (t : Nat) (hf : freeOp C f o = true) :
    evD C call f ns ((s.clear t).ev C) (s.clear t).lo (s.clear t).sg o some = (evD C call f ns (s.ev C) s.lo s.sg o some).map (mapD t) := by
  simp only [freeOp, Bool.or_eq_true, Bool.and_eq_true, decide_eq_true_eq] at hf
  rcases hf with hp | ⟨⟨_, hk⟩, hf⟩
  · exact plain_clear t hp
  split at hf
  · rename_i ty hop
    have hesc : ∀ t, o.dst = some t → C.esc f t = false := fun t ht => by
      simp only [hop, opKind, ht] at hk
      cases he : C.esc f t with
      | false => rfl
      | true => rw [he] at hk; simp at hk
    unfold evD
    rw [hop]
    simp only
    cases hz : zeroCells C.P ty with
    | none => rfl
    | some cs =>
      simp only
      cases (ty == C.bld.1) with
      | true =>
        simp only [cond_true]
        unfold newB
        cases hd : o.dst with
        | none => rfl
        | some u => simp only [hesc u hd, Bool.false_and, cond_false]; rfl
      | false =>
        simp only [cond_false]
        unfold newA
        cases hd : o.dst with
        | none => rfl
        | some u =>
          simp only [hesc u hd, cond_false]
          show (match (clearB t s.lo).getD u none with | none => cond (decide (u < (clearB t s.lo).length)) _ none | some _ => none) = _
          rw [clearB_get, clearB_length]
          cases s.lo.getD u none with
          | some _ => rfl
          | none =>
            simp only [Option.map_none]
            cases decide (u < s.lo.length) with
            | false => rfl
            | true =>
              simp only [cond_true, Option.map_some, mapD, clearL_map]
              congr 2
              have hm : ∀ c ∈ cs, c.2.isId t = false := by
                simp only [zeroCells, Option.bind_eq_some_iff] at hz
                obtain ⟨_, _, hz⟩ := hz
                exact fun c hc => constCells_mark hz t c hc
              rw [List.map_map]
              refine List.map_congr_left fun c hc => ?_
              show (AVal.dat c.1, c.2) = clearE t (AVal.dat c.1, c.2)
              unfold clearE
              simp only [hm c hc, cond_false]
  · rename_i ty parts hop
    unfold evD
    rw [hop]
    simp only
    cases hu : C.P.underlying ty with
    | none => rfl
    | some d0 =>
    cases hz : zeroCells C.P ty with
    | none => cases d0 <;> rfl
    | some zs =>
    have hc := clear_cells (zeroCells_mark hz t)
    cases d0 <;> try rfl
    case array n e =>
      simp only
      cases sizeT C.P e with
      | none => rfl
      | some m =>
        simp only
        have hf := fillA_clear (ev := s.ev C) (ev' := (s.clear t).ev C) (t := t) (place := fun i => some (i * m, m)) (evc t) parts.toList zs
        rw [hc] at hf
        rw [hf]
        cases fillA (s.ev C) (fun i => some (i * m, m)) zs parts.toList <;> rfl
    case struct fs =>
      simp only
      cases (fs.toList.mapM fun f => (C.P.info? f.type).map fun i => (f.offset, i.size)) with
      | none => rfl
      | some places =>
        simp only
        have hf := fillA_clear (ev := s.ev C) (ev' := (s.clear t).ev C) (t := t) (place := fun i => places.toArray[i]?) (evc t) parts.toList zs
        rw [hc] at hf
        rw [hf]
        cases fillA (s.ev C) (fun i => places.toArray[i]?) zs parts.toList <;> rfl
  · rename_i a b c hop
    have hb : (b == 1) = true := hf
    unfold evD
    rw [hop]
    simp only [hb, cond_true]
    cases C.P.underlying a with
    | none => rfl
    | some d =>
      cases d <;> try rfl
      rename_i e
      cases o.dst with
      | none => rfl
      | some k =>
        simp only
        cases sizeT C.P e with
        | none => rfl
        | some n => cases zeroCells C.P e with
          | none => rfl
          | some zs =>
            simp only
            rw [cond_mapD]
            congr 1
            have := fillA_marks (place := fun i => some (i * n, n)) (fun p => evc (C := C) (s := s) t p) c.toList ((List.replicate b zs).flatten) ((List.replicate b zs).flatten) rfl
            cases h1 : fillA (s.ev C) (fun i => some (i * n, n)) ((List.replicate b zs).flatten) c.toList with
            | none =>
              rw [h1] at this
              cases h2 : fillA ((s.clear t).ev C) (fun i => some (i * n, n)) ((List.replicate b zs).flatten) c.toList with
              | none => rfl
              | some l2 => rw [h2] at this; cases this
            | some l1 =>
              rw [h1] at this
              cases h2 : fillA ((s.clear t).ev C) (fun i => some (i * n, n)) ((List.replicate b zs).flatten) c.toList with
              | none => rw [h2] at this; cases this
              | some l2 =>
                rw [h2] at this
                simp only [Option.map_some, Option.some.injEq] at this
                simp only [this]
                rfl
  · rename_i g a b hop
    simp only [Bool.and_eq_true] at hf
    obtain ⟨⟨⟨h1, h2⟩, h3⟩, hpl⟩ := hf
    unfold evD
    rw [hop]
    simp only
    rw [grow_none h2, own_none h3]
    simp only [ev_func, List.nil_append, List.append_nil]
    rw [show (s.clear t).sg = s.sg from rfl, callA_clear t a.toList some]
    cases hc : (isFuncO (Operand.func g) || (C.ownRes g).isNone) with
    | false => rfl
    | true =>
      simp only [cond_true]
      cases hd : callA C call ns s.sg o.dst g (a.toList.map fun x => (s.ev C x).1) some with
      | none => rfl
      | some d =>
        rcases callA_deed hpl hd with ⟨_, ⟨e, rfl, he⟩ | ⟨sg, e, rfl, he⟩⟩ | ⟨hs, _⟩
        · show some (Dl.val e) = some (Dl.val (clearE t e)); rw [he t]
        · show some (Dl.sig sg e) = some (Dl.sig sg (clearE t e)); rw [he t]
        · rw [isNone_of (β := Nat) h1] at hs; cases hs
  · cases hf

theorem plain_kind {o : Oper} (hy : plainOp C o = true) : opKind C f o.dst o.op ≤ 2 := by
  simp only [plainOp, Bool.and_eq_true] at hy
  have hp := hy.2
  split at hp
  · rename_i k hop; rw [hop]; simp [opKind]
  · rename_i k hop; rw [hop]; simp [opKind]
  · rename_i k hop; rw [hop]; simp [opKind]
  · rename_i k hop; rw [hop]; simp [opKind]
  · rename_i k hop; rw [hop]; simp [opKind]
  · rename_i k hop; rw [hop]; simp [opKind]
  · rename_i k hop; rw [hop]; simp [opKind]
  · cases hp
theorem free_kind {o : Oper} (hf : freeOp C f o = true) : opKind C f o.dst o.op ≤ 2 := by
  simp only [freeOp, Bool.or_eq_true, Bool.and_eq_true, decide_eq_true_eq] at hf
  rcases hf with hp | ⟨⟨_, hk⟩, _⟩
  · exact plain_kind hp
  · exact hk
theorem free_guard {o : Oper} (hf : freeOp C f o = true) : o.guard.isNone = true := by
  simp only [freeOp, plainOp, Bool.or_eq_true, Bool.and_eq_true] at hf
  rcases hf with hp | ⟨⟨h, _⟩, _⟩
  · exact hp.1
  · exact h
theorem free_mild {ns : Bool} {o : Oper} {d : Dl} (hf : freeOp C f o = true) (h : evD C call f ns (s.ev C) s.lo s.sg o some = some d) : Mild d := by
  rcases evD_kind (free_kind hf) (ev_func C s) h with h | ⟨c, h, _⟩ | ⟨sg, e, h, _⟩
  · exact .inl h
  · exact .inr (.inl ⟨c, h⟩)
  · exact .inr (.inr ⟨sg, e, h⟩)

theorem clearL_set (t : Nat) (l : List Ent) (i : Nat) (e : Ent) : clearL t (l.set i e) = (clearL t l).set i (clearE t e) := by
  rw [clearL_map, clearL_map, List.map_set]
theorem clearB_set (t : Nat) : ∀ (l : List (Option (List Ent))) (i : Nat) (c : List Ent), clearB t (l.set i (some c)) = (clearB t l).set i (some (clearL t c))
  | [], i, c => rfl
  | b :: l, 0, c => rfl
  | b :: l, i + 1, c => by simp only [List.set_cons_succ, clearB, clearB_set t l i c]
theorem apply_clear {d : Dl} (hd : Mild d) (t : Nat) (dst : Option Nat) : (d.apply s dst).clear t = (mapD t d).apply (s.clear t) dst := by
  rcases hd with ⟨e, rfl⟩ | ⟨c, rfl⟩ | ⟨g, e, rfl⟩
  · exact clear_put t dst e
  · cases dst with
    | none => rfl
    | some u =>
      simp only [Dl.apply, mapD, St.clear]
      rw [clearL_set, clearB_set]
      rfl
  · show (St.put { s with sg := g } dst e).clear t = St.put { s.clear t with sg := g } dst (clearE t e)
    rw [clear_put]
    rfl
theorem mild_mapD {d : Dl} (t : Nat) (hd : Mild d) : Mild (mapD t d) := by
  rcases hd with ⟨e, rfl⟩ | ⟨c, rfl⟩ | ⟨g, e, rfl⟩
  · exact .inl ⟨_, rfl⟩
  · exact .inr (.inl ⟨_, rfl⟩)
  · exact .inr (.inr ⟨_, _, rfl⟩)
theorem put_apply {d : Dl} (hd : Mild d) {x y : Option Nat} {e : Ent} (hxy : ∀ t, x = some t → y ≠ some t) : d.apply (s.put x e) y = (d.apply s y).put x e :=
  apply_comm (d := .val e) (e := d) (.inl ⟨_, rfl⟩) hd hxy (.inl fun _ _ h => by cases h)

/-- a slice is made, then a step that no mark concerns: the other way about -/
theorem swap_gp {nx ny : Bool} {x y : Oper} (hxy : ∀ t, x.dst = some t → t ∉ opTmps y ops ∧ y.dst ≠ some t) (hyx : ∀ t, y.dst = some t → t ∉ opTmps x ops ∧ x.dst ≠ some t) (hx : growOp C x = true) (hy : freeOp C f y = true)
    (h1 : stepA C call f nx ops s x = some s1) (h2 : stepA C call f ny ops s1 y = some s2) : ∃ s', stepA C call f ny ops s y = some s' ∧ stepA C call f nx ops s' x = some s2 := by
  have gx : x.guard.isNone = true := by simp only [growOp, Bool.and_eq_true] at hx; exact hx.1
  have gy := free_guard hy
  rw [stepA_noguard gx, Option.map_eq_some_iff] at h1
  obtain ⟨d, hd, rfl⟩ := h1
  obtain ⟨t, e, rfl⟩ := grow_deed hx hd
  rw [stepA_noguard gy, Option.map_eq_some_iff] at h2
  obtain ⟨d2, hd2, rfl⟩ := h2
  have hm : Mild (Dl.val e) := .inl ⟨_, rfl⟩
  have hlo : ((Dl.val e).apply (s.clear t) x.dst).lo = (s.clear t).lo := soft_lo (.inl ⟨_, rfl⟩)
  have hd3 : evD C call f ny ((s.clear t).ev C) (s.clear t).lo (s.clear t).sg y some = some d2 := by
    refine evD_frame (free_kind hy) hd2 (ev_frame (ops := ops) fun k hk => ?_) (fun v _ => by rw [show ((Dl.clr t e).apply s x.dst).lo = _ from hlo]) (fun _ v _ => by rw [show ((Dl.clr t e).apply s x.dst).lo = _ from hlo]) (by rw [show ((Dl.clr t e).apply s x.dst).lo = _ from hlo])
      (.inr (apply_sg (s := s.clear t) hm (fun _ _ e => by cases e)).symm)
    exact (apply_tm (s := s.clear t) hm fun e => (hxy k e).1 hk).symm
  rw [free_clear t hy, Option.map_eq_some_iff] at hd3
  obtain ⟨d0, hd0, rfl⟩ := hd3
  have hm0 := free_mild hy hd0
  refine ⟨d0.apply s y.dst, by rw [stepA_noguard gy, hd0]; rfl, ?_⟩
  rw [stepA_noguard gx, show evD C call f nx ((d0.apply s y.dst).ev C) (d0.apply s y.dst).lo (d0.apply s y.dst).sg x some = some (.clr t e) from (grow_frame (s := s) hx (ev_frame (ops := ops) fun k hk => apply_tm (s := s) (dst := y.dst) hm0 fun e => (hyx k e).1 hk)).trans hd]
  simp only [Option.map_some]
  congr 1
  show ((d0.apply s y.dst).clear t).put x.dst e = (mapD t d0).apply ((s.clear t).put x.dst e) y.dst
  rw [apply_clear hm0, put_apply (mild_mapD t hm0) fun t ht => (hxy t ht).2]

theorem swap_pg {nx ny : Bool} {x y : Oper} (hxy : ∀ t, x.dst = some t → t ∉ opTmps y ops ∧ y.dst ≠ some t) (hyx : ∀ t, y.dst = some t → t ∉ opTmps x ops ∧ x.dst ≠ some t) (hx : freeOp C f x = true) (hy : growOp C y = true)
    (h1 : stepA C call f nx ops s x = some s1) (h2 : stepA C call f ny ops s1 y = some s2) : ∃ s', stepA C call f ny ops s y = some s' ∧ stepA C call f nx ops s' x = some s2 := by
  have gx := free_guard hx
  have gy : y.guard.isNone = true := by simp only [growOp, Bool.and_eq_true] at hy; exact hy.1
  rw [stepA_noguard gx, Option.map_eq_some_iff] at h1
  obtain ⟨d, hd, rfl⟩ := h1
  have hm0 := free_mild hx hd
  rw [stepA_noguard gy, Option.map_eq_some_iff] at h2
  obtain ⟨d2, hd2, rfl⟩ := h2
  obtain ⟨t, e, rfl⟩ := grow_deed hy hd2
  rw [show evD C call f ny ((d.apply s x.dst).ev C) (d.apply s x.dst).lo (d.apply s x.dst).sg y some = _ from grow_frame (s := s) hy (ev_frame (ops := ops) fun k hk => apply_tm (s := s) (dst := x.dst) hm0 fun e => (hxy k e).1 hk)] at hd2
  refine ⟨(s.clear t).put y.dst e, by rw [stepA_noguard gy, hd2]; rfl, ?_⟩
  have hd3 : evD C call f nx ((s.clear t).ev C) (s.clear t).lo (s.clear t).sg x some = some (mapD t d) := by
    rw [free_clear t hx, hd]; rfl
  have hm : Mild (Dl.val e) := .inl ⟨_, rfl⟩
  have hlo : ((Dl.val e).apply (s.clear t) y.dst).lo = (s.clear t).lo := soft_lo (.inl ⟨_, rfl⟩)
  have hd4 : evD C call f nx (((Dl.val e).apply (s.clear t) y.dst).ev C) ((Dl.val e).apply (s.clear t) y.dst).lo ((Dl.val e).apply (s.clear t) y.dst).sg x some = some (mapD t d) :=
    evD_frame (free_kind hx) hd3 (ev_frame (ops := ops) fun k hk => apply_tm hm fun e => (hyx k e).1 hk) (fun v _ => by rw [hlo]) (fun _ v _ => by rw [hlo]) (by rw [hlo]) (.inr (apply_sg hm (fun _ _ e => by cases e)))
  rw [stepA_noguard gx]
  show (evD C call f nx (((Dl.val e).apply (s.clear t) y.dst).ev C) ((Dl.val e).apply (s.clear t) y.dst).lo ((Dl.val e).apply (s.clear t) y.dst).sg x some).map _ = _
  rw [hd4]
  simp only [Option.map_some]
  congr 1
  show (mapD t d).apply ((s.clear t).put y.dst e) x.dst = ((d.apply s x.dst).clear t).put y.dst e
  rw [apply_clear hm0, put_apply (mild_mapD t hm0) fun t ht => (hyx t ht).2]

/-! ### two slices are made -/
theorem fresh_guard {o : Oper} (hf : freshOp C o = true) : o.guard.isNone = true := by
  simp only [freshOp, Bool.and_eq_true] at hf; exact hf.1
theorem fresh_grow {o : Oper} (hf : freshOp C o = true) : growOp C o = true := by
  simp only [freshOp, growOp, Bool.and_eq_true] at hf ⊢
  refine ⟨hf.1, ?_⟩
  have := hf.2
  split at this
  · rename_i hop; rw [hop]; exact this
  · rename_i hop
    rw [hop]
    simp only [Bool.and_eq_true] at this ⊢
    exact this.1
  · cases this
theorem fresh_deed {ns : Bool} {o : Oper} {d : Dl} (hg : freshOp C o = true) (h : evD C call f ns (s.ev C) s.lo s.sg o some = some d) : ∃ k e, o.dst = some k ∧ d = .clr (8 * k) e ∧ ∀ t, t ≠ 8 * k → Unmarked t e := by
  simp only [freshOp, Bool.and_eq_true] at hg
  obtain ⟨_, hg⟩ := hg
  unfold evD at h
  split at hg
  · rename_i a b c hop
    rw [hop] at h
    simp only at h
    split at h
    · rename_i e k _ hk
      split at h
      · have := (cond_any h).2
        have hb : (b == 1) = false := by simpa using hg
        rw [hb] at this
        split at this
        · cases this
          refine ⟨k, _, hk, rfl, fun t ht => ?_⟩
          unfold Unmarked clearE
          have hid : (8 * k == t) = false := by rw [beq_eq_false_iff_ne]; exact fun e => ht e.symm
          simp only [Own.isId, hid, cond_false]
        · cases this
      · cases h
    · cases h
  · rename_i g a b hop
    simp only [Bool.and_eq_true] at hg
    obtain ⟨⟨⟨h1, h2⟩, h3⟩, hpl⟩ := hg
    rw [hop] at h
    simp only at h
    rw [grow_none h2, own_none h3] at h
    simp only [ev_func] at h
    obtain ⟨_, h⟩ := cond_any h
    rcases callA_deed hpl h with ⟨hn, _⟩ | ⟨_, h⟩
    · rw [hn] at h1; cases h1
    · exact h
  · cases hg
theorem fresh_clear {ns : Bool} {o : Oper} (t : Nat) (hf : freshOp C o = true) :
    evD C call f ns ((s.clear t).ev C) (s.clear t).lo (s.clear t).sg o some = evD C call f ns (s.ev C) s.lo s.sg o some := by
  simp only [freshOp, Bool.and_eq_true] at hf
  obtain ⟨_, hf⟩ := hf
  unfold evD
  split at hf
  · rename_i a b c hop
    rw [hop]
    simp only
    cases C.P.underlying a with
    | none => rfl
    | some d =>
      cases d <;> try rfl
      rename_i e
      cases o.dst with
      | none => rfl
      | some k =>
        simp only
        cases sizeT C.P e with
        | none => rfl
        | some n => cases zeroCells C.P e with
          | none => rfl
          | some zs =>
            simp only
            have := fillA_marks (place := fun i => some (i * n, n)) (fun p => evc (C := C) (s := s) t p) c.toList ((List.replicate b zs).flatten) ((List.replicate b zs).flatten) rfl
            cases h1 : fillA (s.ev C) (fun i => some (i * n, n)) ((List.replicate b zs).flatten) c.toList with
            | none =>
              rw [h1] at this
              cases h2 : fillA ((s.clear t).ev C) (fun i => some (i * n, n)) ((List.replicate b zs).flatten) c.toList with
              | none => rfl
              | some l2 => rw [h2] at this; cases this
            | some l1 =>
              rw [h1] at this
              cases h2 : fillA ((s.clear t).ev C) (fun i => some (i * n, n)) ((List.replicate b zs).flatten) c.toList with
              | none => rw [h2] at this; cases this
              | some l2 =>
                rw [h2] at this
                simp only [Option.map_some, Option.some.injEq] at this
                simp only [this]
  · rename_i g a b hop
    simp only [Bool.and_eq_true] at hf
    obtain ⟨⟨⟨h1, h2⟩, h3⟩, hpl⟩ := hf
    rw [hop]
    simp only
    rw [grow_none h2, own_none h3]
    simp only [ev_func, List.nil_append, List.append_nil]
    rw [show (s.clear t).sg = s.sg from rfl, callA_clear t a.toList some]
  · cases hf

theorem clear_comm (t u : Nat) : (s.clear t).clear u = (s.clear u).clear t := by
  have he : ∀ e : Ent, clearE u (clearE t e) = clearE t (clearE u e) := by
    have ho : ∀ o : Own, cond ((cond (o.isId t) Own.none o).isId u) Own.none (cond (o.isId t) Own.none o) = cond ((cond (o.isId u) Own.none o).isId t) Own.none (cond (o.isId u) Own.none o) := by
      intro o
      cases o with
      | none => rfl
      | full => rfl
      | id v n => cases h1 : (v == t) <;> cases h2 : (v == u) <;> simp [h1, h2, Own.isId]
    rintro ⟨x, o⟩
    cases x <;> simp only [clearE, List.map_map, ho]
    · congr 2
      refine List.map_congr_left fun c _ => ?_
      simp only [Function.comp_apply, ho]
    · congr 2
      refine List.map_congr_left fun c _ => ?_
      simp only [Function.comp_apply, ho]
  have hL : ∀ l : List Ent, clearL u (clearL t l) = clearL t (clearL u l) := fun l => by
    rw [clearL_map, clearL_map, clearL_map, clearL_map, List.map_map, List.map_map]
    exact List.map_congr_left fun e _ => he e
  have hB : ∀ l : List (Option (List Ent)), clearB u (clearB t l) = clearB t (clearB u l) := fun l => by
    induction l with
    | nil => rfl
    | cons b l ih =>
      simp only [clearB, ih]
      cases b with
      | none => rfl
      | some c => simp only [hL]
  unfold St.clear
  simp only [hL, hB]

theorem swap_ff {nx ny : Bool} {x y : Oper} (hxy : ∀ t, x.dst = some t → t ∉ opTmps y ops ∧ y.dst ≠ some t) (hyx : ∀ t, y.dst = some t → t ∉ opTmps x ops ∧ x.dst ≠ some t) (hx : freshOp C x = true) (hy : freshOp C y = true)
    (h1 : stepA C call f nx ops s x = some s1) (h2 : stepA C call f ny ops s1 y = some s2) : ∃ s', stepA C call f ny ops s y = some s' ∧ stepA C call f nx ops s' x = some s2 := by
  have gx := fresh_guard hx
  have gy := fresh_guard hy
  rw [stepA_noguard gx, Option.map_eq_some_iff] at h1
  obtain ⟨d, hd, rfl⟩ := h1
  obtain ⟨k, e, hk, rfl, he⟩ := fresh_deed hx hd
  rw [stepA_noguard gy, Option.map_eq_some_iff] at h2
  obtain ⟨d2, hd2, rfl⟩ := h2
  rw [show evD C call f ny (((Dl.clr (8 * k) e).apply s x.dst).ev C) ((Dl.clr (8 * k) e).apply s x.dst).lo ((Dl.clr (8 * k) e).apply s x.dst).sg y some = _ from
    grow_frame (s := s.clear (8 * k)) (fresh_grow hy) (ev_frame (ops := ops) fun j hj => apply_tm (s := s.clear (8 * k)) (d := .val e) (dst := x.dst) (.inl ⟨_, rfl⟩) fun e => (hxy j e).1 hj), fresh_clear _ hy] at hd2
  obtain ⟨m, e', hm, rfl, he'⟩ := fresh_deed hy hd2
  have hkm : k ≠ m := fun h => (hxy k hk).2 (by rw [hm, h])
  have h8 : (8 * k : Nat) ≠ 8 * m := fun h => hkm (Nat.eq_of_mul_eq_mul_left (by decide) h)
  refine ⟨(s.clear (8 * m)).put y.dst e', by rw [stepA_noguard gy, hd2]; rfl, ?_⟩
  rw [stepA_noguard gx, show evD C call f nx (((s.clear (8 * m)).put y.dst e').ev C) ((s.clear (8 * m)).put y.dst e').lo ((s.clear (8 * m)).put y.dst e').sg x some = some (.clr (8 * k) e) from
    (grow_frame (s := s.clear (8 * m)) (fresh_grow hx) (ev_frame (ops := ops) fun j hj => apply_tm (s := s.clear (8 * m)) (d := .val e') (dst := y.dst) (.inl ⟨_, rfl⟩) fun e => (hyx j e).1 hj)).trans ((fresh_clear _ hx).trans hd)]
  simp only [Option.map_some]
  congr 1
  show (((s.clear (8 * m)).put y.dst e').clear (8 * k)).put x.dst e = (((s.clear (8 * k)).put x.dst e).clear (8 * m)).put y.dst e'
  rw [clear_put, clear_put, he' (8 * k) h8, he (8 * m) h8.symm, clear_comm, put_comm fun t ht => (hyx t ht).2]

/-! ### the same, with guards -/
def Sw (C : Cfg) (f : FuncId) (o : Oper) : Prop := freeOp C f (bareO o) = true ∨ growOp C (bareO o) = true
theorem bare_tmps {o : Oper} {k : Nat} (h : k ∈ opTmps (bareO o) ops) : k ∈ opTmps o ops := by
  simp only [opTmps, bareO, List.append_nil] at h
  exact List.mem_append_left _ h
theorem wantedA_clear (t : Nat) (o : Oper) : wantedA ops (s.clear t) o = wantedA ops s o := by
  unfold wantedA
  split
  · rfl
  · split
    · rfl
    · rename_i d _
      rw [show (s.clear t).tm[d]? = (s.tm[d]?).map (clearE t) from clearL_get ..]
      cases s.tm[d]? with
      | none => rfl
      | some e =>
        obtain ⟨a, w⟩ := e
        cases a with
        | dat d => cases d <;> rfl
        | _ => rfl
theorem stepA_bare {ns : Bool} {o : Oper} (h : wantedA ops s o = some true) : stepA C call f ns ops s o = stepA C call f ns ops s (bareO o) := by
  rw [stepA_noguard (o := bareO o) rfl]
  unfold stepA
  rw [h]
  rfl
theorem put_lo (x : Option Nat) (e : Ent) : (s.put x e).lo = s.lo := by cases x <;> rfl
theorem put_sg (x : Option Nat) (e : Ent) : (s.put x e).sg = s.sg := by cases x <;> rfl
theorem evD_put {ns : Bool} {o : Oper} {x : Option Nat} {e : Ent} (hs : Sw C f o) (hx : ∀ t, x = some t → t ∉ opTmps o ops ∧ o.dst ≠ some t) :
    evD C call f ns ((s.put x e).ev C) (s.put x e).lo (s.put x e).sg o some = evD C call f ns (s.ev C) s.lo s.sg o some := by
  have htm : ∀ k ∈ opTmps o ops, (s.put x e).tm[k]? = s.tm[k]? := fun k hk => apply_tm (d := .val e) (.inl ⟨_, rfl⟩) fun h => (hx k h).1 hk
  rcases hs with hf | hg
  · have hk : opKind C f o.dst o.op ≤ 2 := free_kind (o := bareO o) hf
    cases h : evD C call f ns (s.ev C) s.lo s.sg o some with
    | some d => exact evD_frame hk h (ev_frame (ops := ops) htm) (fun v _ => by rw [put_lo]) (fun _ v _ => by rw [put_lo]) (by rw [put_lo]) (.inr (put_sg x e))
    | none =>
      cases h' : evD C call f ns ((s.put x e).ev C) (s.put x e).lo (s.put x e).sg o some with
      | none => rfl
      | some d =>
        have := evD_frame hk h' (ev' := s.ev C) (lo' := s.lo) (sg' := s.sg) (fun y hy => (ev_frame (ops := ops) htm y hy).symm) (fun v _ => by rw [put_lo]) (fun _ v _ => by rw [put_lo]) (by rw [put_lo]) (.inr (put_sg x e).symm)
        rw [h] at this
        cases this
  · exact grow_frame (o := bareO o) hg (ev_frame (o := bareO o) (ops := ops) fun k hk => htm k (bare_tmps hk))
theorem sw_deed {ns : Bool} {o : Oper} {d : Dl} (hs : Sw C f o) (h : evD C call f ns (s.ev C) s.lo s.sg o some = some d) : Mild d ∨ ∃ u e, d = .clr u e := by
  rcases hs with hf | hg
  · exact .inl (free_mild (o := bareO o) hf h)
  · exact .inr (grow_deed (o := bareO o) hg h)
theorem sw_put {d : Dl} (hd : Mild d ∨ ∃ u e, d = .clr u e) {x y : Option Nat} (hxy : ∀ t, x = some t → y ≠ some t) : d.apply (s.put x (.undef, .none)) y = (d.apply s y).put x (.undef, .none) := by
  rcases hd with hm | ⟨u, e, rfl⟩
  · exact put_apply hm hxy
  · show ((s.put x (.undef, .none)).clear u).put y e = ((s.clear u).put y e).put x (.undef, .none)
    rw [clear_put, put_comm hxy]
    rfl
theorem wanted_put {o : Oper} {x : Option Nat} {e : Ent} (hx : ∀ t, x = some t → t ∉ opTmps o ops ∧ o.dst ≠ some t) : wantedA ops (s.put x e) o = wantedA ops s o :=
  wantedA_frame fun k hk => apply_tm (d := .val e) (.inl ⟨_, rfl⟩) fun h => (hx k h).1 hk
theorem step_put {ns : Bool} {o : Oper} {x : Option Nat} (hs : Sw C f o) (hx : ∀ t, x = some t → t ∉ opTmps o ops ∧ o.dst ≠ some t) :
    stepA C call f ns ops (s.put x (.undef, .none)) o = (stepA C call f ns ops s o).map fun s' => s'.put x (.undef, .none) := by
  unfold stepA
  rw [wanted_put hx, evD_put hs hx]
  cases wantedA ops s o with
  | none => rfl
  | some b => cases b with
    | false => exact congrArg some (put_comm fun t ht => (hx t ht).2)
    | true =>
      simp only [Option.map_map]
      cases hd : evD C call f ns (s.ev C) s.lo s.sg o some with
      | none => rfl
      | some d => exact congrArg some (sw_put (sw_deed hs hd) fun t ht => (hx t ht).2)
theorem wanted_step {ns : Bool} {x y : Oper} (hs : Sw C f x) (hxy : ∀ t, x.dst = some t → t ∉ opTmps y ops ∧ y.dst ≠ some t) (h : stepA C call f ns ops s x = some s1) : wantedA ops s1 y = wantedA ops s y := by
  unfold stepA at h
  split at h
  · rw [Option.map_eq_some_iff] at h
    obtain ⟨d, hd, rfl⟩ := h
    rcases sw_deed hs hd with hm | ⟨u, e, rfl⟩
    · exact wantedA_frame fun k hk => apply_tm hm fun h => (hxy k h).1 hk
    · exact (wanted_put (s := s.clear u) hxy).trans (wantedA_clear u y)
  · cases h
    exact wanted_put hxy
  · cases h
theorem swap_guard {nx ny : Bool} {x y : Oper} (hxy : ∀ t, x.dst = some t → t ∉ opTmps y ops ∧ y.dst ≠ some t) (hyx : ∀ t, y.dst = some t → t ∉ opTmps x ops ∧ x.dst ≠ some t) (sx : Sw C f x) (sy : Sw C f y)
    (core : ∀ {a b c : St}, stepA C call f nx ops a (bareO x) = some b → stepA C call f ny ops b (bareO y) = some c → ∃ s', stepA C call f ny ops a (bareO y) = some s' ∧ stepA C call f nx ops s' (bareO x) = some c)
    (h1 : stepA C call f nx ops s x = some s1) (h2 : stepA C call f ny ops s1 y = some s2) : ∃ s', stepA C call f ny ops s y = some s' ∧ stepA C call f nx ops s' x = some s2 := by
  have hwy := wanted_step sx hxy h1
  cases hwx : wantedA ops s x with
  | none => unfold stepA at h1; rw [hwx] at h1; cases h1
  | some b => cases b with
    | false =>
      have e1 : s1 = s.put x.dst (.undef, .none) := by unfold stepA at h1; rw [hwx] at h1; exact (Option.some.inj h1).symm
      subst e1
      rw [step_put sy hxy, Option.map_eq_some_iff] at h2
      obtain ⟨s', h3, rfl⟩ := h2
      refine ⟨s', h3, ?_⟩
      have := wanted_step sy hyx h3
      unfold stepA
      rw [this, hwx]
    | true =>
      cases hw : wantedA ops s1 y with
      | none => unfold stepA at h2; rw [hw] at h2; cases h2
      | some b => cases b with
        | false =>
          have e2 : s2 = s1.put y.dst (.undef, .none) := by unfold stepA at h2; rw [hw] at h2; exact (Option.some.inj h2).symm
          subst e2
          rw [hwy] at hw
          refine ⟨s.put y.dst (.undef, .none), by unfold stepA; rw [hw], ?_⟩
          rw [step_put sx hyx, h1]
          rfl
        | true =>
          rw [stepA_bare hwx] at h1
          rw [stepA_bare hw] at h2
          obtain ⟨s', h3, h4⟩ := core h1 h2
          rw [hwy] at hw
          have h3' : stepA C call f ny ops s y = some s' := by rw [stepA_bare hw]; exact h3
          refine ⟨s', h3', ?_⟩
          rw [stepA_bare (by rw [wanted_step sy hyx h3', hwx])]
          exact h4

/-- what two operations of which one is a store must know of the memory -/
def Off (C : Cfg) (s : St) (x y : Oper) : Prop :=
  (∀ k, stPtr x.op = some k → ∃ u off, (s.ev C (.tmp k)).1 = .loc u off ∧ Elsewhere C s u y) ∧ (∀ k, stPtr x.op = none → stPtr y.op = some k → ∃ u off, (s.ev C (.tmp k)).1 = .loc u off ∧ Elsewhere C s u x)

theorem swap_step {nx ny : Bool} {x y : Oper} (hsw : swapOk C f ops x y = true) (hny : opKind C f x.dst x.op = 2 → ny = true) (hnx : opKind C f y.dst y.op = 2 → nx = true) (hs : StOk s) (hoff : Off C s x y)
    (h1 : stepA C call f nx ops s x = some s1) (h2 : stepA C call f ny ops s1 y = some s2) : ∃ s', stepA C call f ny ops s y = some s' ∧ stepA C call f nx ops s' x = some s2 := by
  simp only [swapOk, Bool.and_eq_true, Bool.or_eq_true, decide_eq_true_eq] at hsw
  obtain ⟨⟨hsw1, hsw2⟩, hk⟩ := hsw
  have hxy : ∀ t, x.dst = some t → t ∉ opTmps y ops ∧ y.dst ≠ some t := by
    intro t ht
    rw [ht] at hsw1
    simpa using hsw1
  have hyx : ∀ t, y.dst = some t → t ∉ opTmps x ops ∧ x.dst ≠ some t := by
    intro t ht
    rw [ht] at hsw2
    refine ⟨by simpa using hsw2, fun e => (hxy t e).2 ht⟩
  rcases hk with ((((⟨hkx, hky⟩ | ⟨h3, h4⟩) | ⟨h3, h4⟩) | ⟨h3, h4⟩) | ⟨h3, h4⟩) | ⟨h3, h4⟩
  rotate_right
  · exact swap_guard hxy hyx (.inr (fresh_grow h3)) (.inr (fresh_grow h4)) (fun a b => swap_ff (x := bareO x) (y := bareO y) (fun t ht => ⟨fun hm => (hxy t ht).1 (bare_tmps hm), (hxy t ht).2⟩) (fun t ht => ⟨fun hm => (hyx t ht).1 (bare_tmps hm), (hyx t ht).2⟩) h3 h4 a b) h1 h2
  rotate_right
  · exact swap_guard hxy hyx (.inl h3) (.inr h4) (fun a b => swap_pg (x := bareO x) (y := bareO y) (fun t ht => ⟨fun hm => (hxy t ht).1 (bare_tmps hm), (hxy t ht).2⟩) (fun t ht => ⟨fun hm => (hyx t ht).1 (bare_tmps hm), (hyx t ht).2⟩) h3 h4 a b) h1 h2
  rotate_right
  · exact swap_guard hxy hyx (.inr h3) (.inl h4) (fun a b => swap_gp (x := bareO x) (y := bareO y) (fun t ht => ⟨fun hm => (hxy t ht).1 (bare_tmps hm), (hxy t ht).2⟩) (fun t ht => ⟨fun hm => (hyx t ht).1 (bare_tmps hm), (hyx t ht).2⟩) h3 h4 a b) h1 h2
  · exact swap_mild hxy hyx hkx hky hny hnx hs h1 h2
  · obtain ⟨k, hk⟩ := Option.isSome_iff_exists.1 h3
    obtain ⟨u, off, hu, hel⟩ := hoff.1 k hk
    exact swap_st hxy hyx hk hu h4 hel h1 h2
  · obtain ⟨k, hk⟩ := Option.isSome_iff_exists.1 h4
    cases hx : stPtr x.op with
    | some j =>
      exfalso
      obtain ⟨t, v, hop⟩ := stPtr_some hx
      simp [softOp, hop, opKind] at h3
    | none =>
      obtain ⟨u, off, hu, hel⟩ := hoff.2 k hx hk
      exact swap_ts hxy hyx hk hu h3 hel h1 h2

/-- a slot's value, marks aside -/
def core : AVal → AVal
  | .agg cs => .agg (cs.map fun c => (c.1, .none))
  | .tup _ => .tup []
  | a => a

/-- a slot that is not written: its value is there still, or forgotten -/
def KeepRel (e e' : Ent) : Prop := e'.1 = .junk ∨ core e'.1 = core e.1

theorem KeepRel.refl (e : Ent) : KeepRel e e := .inr rfl
theorem KeepRel.trans {a b c : Ent} (h : KeepRel a b) (k : KeepRel b c) : KeepRel a c := by
  rcases k with k | k
  · exact .inl k
  · rcases h with h | h
    · left
      rw [h] at k
      cases hc : c.1 <;> rw [hc] at k <;> first | rfl | cases k
    · exact .inr (k.trans h)

theorem core_clear (t : Nat) (e : Ent) : core (clearE t e).1 = core e.1 := by
  obtain ⟨x, o⟩ := e
  cases x <;> try rfl
  simp [clearE, core]

def gt (s : St) (k : Nat) : Ent := s.tm.getD k (.undef, .none)

/-- what a piece of code leaves of the slots that it does not write -/
structure Rel (W : List Nat) (s s' : St) : Prop where
  tm : s'.tm.length = s.tm.length
  lo : s'.lo.length = s.lo.length
  keep : ∀ k, k ∉ W → KeepRel (gt s k) (gt s' k)

theorem Rel.refl (W : List Nat) (s : St) : Rel W s s := ⟨rfl, rfl, fun _ _ => .refl _⟩
theorem Rel.trans {W : List Nat} {a b c : St} (h : Rel W a b) (k : Rel W b c) : Rel W a c := ⟨k.tm.trans h.tm, k.lo.trans h.lo, fun i hi => (h.keep i hi).trans (k.keep i hi)⟩
theorem Rel.mono {W V : List Nat} {a b : St} (h : Rel W a b) (hs : ∀ k ∈ W, k ∈ V) : Rel V a b := ⟨h.tm, h.lo, fun i hi => h.keep i fun hw => hi (hs i hw)⟩

theorem rel_put (s : St) (d : Option Nat) (e : Ent) {W : List Nat} (h : ∀ t, d = some t → t ∈ W) : Rel W s (s.put d e) := by
  cases d with
  | none => exact .refl _ _
  | some t =>
    refine ⟨by simp [St.put], rfl, fun k hk => ?_⟩
    have : gt (s.put (some t) e) k = gt s k := by
      have hne : t ≠ k := fun e => hk (e ▸ h t rfl)
      simp only [gt, St.put, List.getD_eq_getElem?_getD]
      rw [List.getElem?_set, if_neg hne]
    rw [this]
    exact .refl _

theorem rel_clear (s : St) (t : Nat) (W : List Nat) : Rel W s (s.clear t) := by
  refine ⟨by simp [St.clear, clearL_length], by simp [St.clear, clearB_length], fun k _ => ?_⟩
  simp only [gt, St.clear, List.getD_eq_getElem?_getD, clearL_get]
  cases s.tm[k]? with
  | none => exact .refl _
  | some e => exact .inr (core_clear t e)

theorem rel_apply {s : St} {d : Dl} {dst : Option Nat} {W : List Nat} (hd : OkD s dst d) (h : ∀ t, dst = some t → t ∈ W) : Rel W s (d.apply s dst) := by
  cases d with
  | val e => exact rel_put s dst e h
  | box cells =>
    cases dst with
    | none => exact .refl _ _
    | some t =>
      refine ⟨by simp [Dl.apply], by simp [Dl.apply], fun k hk => ?_⟩
      have hne : t ≠ k := fun e => hk (e ▸ h t rfl)
      have : gt (Dl.apply (.box cells) s (some t)) k = gt s k := by
        simp only [gt, Dl.apply, List.getD_eq_getElem?_getD]
        rw [List.getElem?_set, if_neg hne]
      rw [this]
      exact .refl _
  | sig sg e =>
    have := rel_put { s with sg := sg } dst e h
    exact ⟨this.tm, this.lo, this.keep⟩
  | los lo e =>
    obtain ⟨⟨u, cells, cells', _, rfl⟩, _⟩ := hd
    have := rel_put { s with lo := s.lo.set u (some cells') } dst e h
    exact ⟨this.tm, by rw [show (Dl.apply (.los (s.lo.set u (some cells')) e) s dst).lo.length = _ from this.lo]; simp, this.keep⟩
  | clr t e => exact (rel_clear s t W).trans (rel_put _ dst e h)

theorem stepA_rel {ns : Bool} {s s' : St} {o : Oper} {W : List Nat} (hs : StOk s) (h : stepA C call f ns ops s o = some s') (hW : ∀ t, o.dst = some t → t ∈ W) : Rel W s s' := by
  unfold stepA at h
  split at h
  · rw [Option.map_eq_some_iff] at h
    obtain ⟨d, hd, rfl⟩ := h
    exact rel_apply (evD_ok hs hd) hW
  · cases h; exact rel_put _ _ _ hW
  · cases h

theorem stepsA_rel_on {ns : Nat → Bool} {W : List Nat} : ∀ {is : List Nat} {s s' : St}, (∀ i ∈ is, ∀ o, ops[i]? = some o → ∀ t, o.dst = some t → t ∈ W) → StOk s → stepsA C call f ops ns is s = some s' → Rel W s s' ∧ StOk s'
  | [], s, s', _, hs, h => by cases h; exact ⟨.refl _ _, hs⟩
  | i :: is, s, s', hW, hs, h => by
    simp only [stepsA] at h
    split at h
    · rename_i o ho
      rw [Option.bind_eq_some_iff] at h
      obtain ⟨s1, h1, h2⟩ := h
      obtain ⟨h3, h4⟩ := stepsA_rel_on (fun j hj => hW j (by simp [hj])) (stepA_ok hs h1) h2
      exact ⟨(stepA_rel hs h1 (hW i (by simp) o ho)).trans h3, h4⟩
    · cases h

theorem stepsA_rel {ns : Nat → Bool} {W : List Nat} (hW : ∀ (i : Nat) o, ops[i]? = some o → ∀ t, o.dst = some t → t ∈ W) {is : List Nat} {s s' : St} (hs : StOk s) (h : stepsA C call f ops ns is s = some s') : Rel W s s' ∧ StOk s' :=
  stepsA_rel_on (fun i _ => hW i) hs h

/-- a place that is there at the end was there all along -/
theorem stays {ns : Nat → Bool} {is : List Nat} {s sF : St} {k : Nat} (hs : StOk s) (h : stepsA C call f ops ns is s = some sF) (hk : ∀ i ∈ is, ∀ o, ops[i]? = some o → o.dst ≠ some k) :
    KeepRel (gt s k) (gt sF k) := by
  have hr := (stepsA_rel_on (W := is.filterMap fun i => (ops[i]?).bind (·.dst)) (fun i hi o ho t ht => List.mem_filterMap.2 ⟨i, hi, by rw [ho]; exact ht⟩) hs h).1
  refine hr.keep k fun hm => ?_
  obtain ⟨i, hi, h2⟩ := List.mem_filterMap.1 hm
  cases ho : ops[i]? with
  | none => rw [ho] at h2; cases h2
  | some o => rw [ho] at h2; exact hk i hi o ho h2

theorem stays_loc {e e' : Ent} (h : KeepRel e e') {u off : Nat} (he : e'.1 = .loc u off) : e.1 = .loc u off := by
  rcases h with h | h
  · rw [h] at he; cases he
  · rw [he] at h
    cases hx : e.1 <;> rw [hx] at h <;> simp_all [core]

/-- may j, which stands ahead of i in the text, come behind it? -/
def Loose (C : Cfg) (f : FuncId) (ops : Array Oper) (ns : Nat → Bool) (j i : Nat) : Prop :=
  ∀ x y, ops[j]? = some x → ops[i]? = some y → swapOk C f ops x y = true ∧ (opKind C f x.dst x.op = 2 → ns i = true) ∧ (opKind C f y.dst y.op = 2 → ns j = true)

/-- an operation's place is not written from there on -/
def Firm (ops : Array Oper) : Prop := ∀ (j : Nat) o, ops[j]? = some o → ∀ k, stPtr o.op = some k ∨ ldPtr o.op = some k → ∀ (n : Nat) z, j ≤ n → ops[n]? = some z → z.dst ≠ some k

theorem ldPtr_some {op : Op} {k : Nat} (h : ldPtr op = some k) : ∃ t, op = .load t (.tmp k) := by
  unfold ldPtr at h
  split at h
  · cases h; exact ⟨_, rfl⟩
  · cases h

theorem swapOk_dst {x y : Oper} (h : swapOk C f ops x y = true) {t : Nat} (ht : x.dst = some t) : t ∉ opTmps y ops := by
  simp only [swapOk, Bool.and_eq_true] at h
  have := h.1.1
  rw [ht] at this
  simp at this
  exact this.1

theorem elsewhere_of {u k : Nat} {o : Oper} {sF : St} (hap : apartA sF k (ldPtr o.op) = true) (hu : ∃ off, (gt sF k).1 = .loc u off) (hsoft : softOp C f o = true) (hkeep : ∀ j, ldPtr o.op = some j → KeepRel (gt s j) (gt sF j)) : Elsewhere C s u o := by
  intro t p off v hop hv
  cases p with
  | tmp j =>
    have hl : ldPtr o.op = some j := by rw [hop]; rfl
    obtain ⟨off0, hu⟩ := hu
    have hk := hkeep j hl
    unfold apartA at hap
    rw [show (sF.tm.getD k (.undef, .none)) = gt sF k from rfl, hu, hl] at hap
    simp only at hap
    rw [show (sF.tm.getD j (.undef, .none)) = gt sF j from rfl] at hap
    have hv' : (gt s j).1 = .loc v off := hv
    rcases hk with hk | hk
    · rw [hk] at hap; cases hap
    · rw [hv'] at hk
      cases hx : (gt sF j).1 <;> rw [hx] at hk hap <;> simp_all [core]
  | const c => simp [softOp, hop] at hsoft
  | global c => simp [softOp, hop] at hsoft
  | func c => simp [softOp, hop] at hsoft

theorem off_of {ns : Nat → Bool} {i j : Nat} {L : List Nat} {sF : St} {x y : Oper} (hs : StOk s) (hF : Firm ops) (hx : ops[j]? = some x) (hy : ops[i]? = some y) (hsw : swapOk C f ops x y = true) (hap : apart sF x y = true)
    (hL : ∀ n ∈ L, j ≤ n) (hLi : ∀ n ∈ L, n < i → ∀ z, ops[n]? = some z → ∀ t, z.dst = some t → t ∉ opTmps y ops) (h : stepsA C call f ops ns L s = some sF) : Off C s x y := by
  have kx : ∀ k, stPtr x.op = some k ∨ ldPtr x.op = some k → KeepRel (gt s k) (gt sF k) := fun k hk => stays hs h fun n hn z hz => hF j x hx k hk n z (hL n hn) hz
  have ky : ∀ k, stPtr y.op = some k ∨ ldPtr y.op = some k → KeepRel (gt s k) (gt sF k) := fun k hk => stays hs h fun n hn z hz => by
    by_cases hni : n < i
    · intro e
      refine hLi n hn hni z hz k e ?_
      rcases hk with hk | hk
      · obtain ⟨t, v, hop⟩ := stPtr_some hk
        exact mem_tmps (by rw [hop]; simp [Op.operands])
      · obtain ⟨t, hop⟩ := ldPtr_some hk
        exact mem_tmps (by rw [hop]; simp [Op.operands])
    · exact hF i y hy k hk n z (by omega) hz
  have loc : ∀ {k l}, apartA sF k l = true → ∃ u off, (gt sF k).1 = .loc u off := by
    intro k l h
    unfold apartA at h
    split at h
    · rename_i u off hu; exact ⟨u, off, hu⟩
    · cases h
  refine ⟨fun k hk => ?_, fun k hxn hk => ?_⟩
  · unfold apart at hap
    rw [hk] at hap
    simp only at hap
    obtain ⟨u, off, hu⟩ := loc hap
    have hsoft : softOp C f y = true := by
      simp only [swapOk, Bool.and_eq_true, Bool.or_eq_true, decide_eq_true_eq] at hsw
      obtain ⟨t, v, hop⟩ := stPtr_some hk
      rcases hsw.2 with ((((⟨h1, _⟩ | ⟨_, h2⟩) | ⟨h2, _⟩) | ⟨h2, _⟩) | ⟨h2, _⟩) | ⟨h2, _⟩
      · simp [hop, opKind] at h1
      · exact h2
      · simp [softOp, hop, opKind] at h2
      · simp [growOp, bareO, hop] at h2
      · simp [freeOp, plainOp, bareO, hop] at h2
      · simp [freshOp, bareO, hop] at h2
    exact ⟨u, off, stays_loc (kx k (.inl hk)) hu, elsewhere_of hap ⟨off, hu⟩ hsoft fun m hm => ky m (.inr hm)⟩
  · unfold apart at hap
    rw [hxn, hk] at hap
    simp only at hap
    obtain ⟨u, off, hu⟩ := loc hap
    have hsoft : softOp C f x = true := by
      simp only [swapOk, Bool.and_eq_true, Bool.or_eq_true, decide_eq_true_eq] at hsw
      obtain ⟨t, v, hop⟩ := stPtr_some hk
      rcases hsw.2 with ((((⟨_, h1⟩ | ⟨h1, _⟩) | ⟨h2, _⟩) | ⟨_, h2⟩) | ⟨_, h2⟩) | ⟨_, h2⟩
      · simp [hop, opKind] at h1
      · rw [hxn] at h1; cases h1
      · exact h2
      · simp [freeOp, plainOp, bareO, hop] at h2
      · simp [growOp, bareO, hop] at h2
      · simp [freshOp, bareO, hop] at h2
    exact ⟨u, off, stays_loc (ky k (.inl hk)) hu, elsewhere_of hap ⟨off, hu⟩ hsoft fun m hm => kx m (.inr hm)⟩

theorem pull {ns : Nat → Bool} {i : Nat} (hF : Firm ops) : ∀ {A B : List Nat} {s sF : St}, StOk s → (A ++ i :: B).Pairwise (· < ·) → (∀ j ∈ A, Loose C f ops ns j i) → (∀ j ∈ A, ∀ x y, ops[j]? = some x → ops[i]? = some y → apart sF x y = true) →
    stepsA C call f ops ns (A ++ i :: B) s = some sF → stepsA C call f ops ns (i :: (A ++ B)) s = some sF
  | [], B, s, sF, _, _, _, _, h => h
  | j :: A, B, s, sF, hs, hp, hl, hap, h => by
    simp only [List.cons_append, stepsA] at h
    have hp2 : j < i ∧ (∀ n ∈ A ++ B, j < n) ∧ (A ++ i :: B).Pairwise (· < ·) := by
      rw [List.cons_append, List.pairwise_cons] at hp
      refine ⟨hp.1 i (by simp), fun n hn => hp.1 n ?_, hp.2⟩
      rcases List.mem_append.1 hn with h | h <;> simp [h]
    have hB : ∀ n ∈ B, i < n := by
      have := hp2.2.2
      rw [List.pairwise_append, List.pairwise_cons] at this
      exact this.2.1.1
    split at h
    · rename_i x hx
      simp only [Option.bind_eq_some_iff] at h
      obtain ⟨s1, h1, h2⟩ := h
      have h3 := pull hF (A := A) (B := B) (stepA_ok hs h1) hp2.2.2 (fun k hk => hl k (by simp [hk])) (fun k hk => hap k (by simp [hk])) h2
      have hall : stepsA C call f ops ns (j :: i :: (A ++ B)) s = some sF := by
        rw [stepsA, hx]
        simp only [h1, Option.bind_some]
        exact h3
      simp only [stepsA] at h3
      split at h3
      · rename_i y hy
        simp only [Option.bind_eq_some_iff] at h3
        obtain ⟨s2, h4, h5⟩ := h3
        obtain ⟨ha, hb, hc⟩ := hl j (by simp) x y hx hy
        have hoff : Off C s x y := by
          refine off_of hs hF hx hy ha (hap j (by simp) x y hx hy) (fun n hn => ?_) (fun n hn hni z hz t ht => ?_) hall
          · rcases List.mem_cons.1 hn with rfl | hn
            · exact Nat.le_refl _
            · rcases List.mem_cons.1 hn with rfl | hn
              · exact Nat.le_of_lt hp2.1
              · exact Nat.le_of_lt (hp2.2.1 n hn)
          · have hm : n ∈ j :: A := by
              rcases List.mem_cons.1 hn with rfl | hn
              · simp
              · rcases List.mem_cons.1 hn with rfl | hn
                · omega
                · rcases List.mem_append.1 hn with hn | hn
                  · simp [hn]
                  · have := hB n hn; omega
            exact swapOk_dst (hl n hm z y hz hy).1 ht
        obtain ⟨s', h6, h7⟩ := swap_step ha hb hc hs hoff h1 h4
        simp only [List.cons_append, stepsA, hy, h6, Option.bind_some, hx, h7]
        exact h5
      · cases h3
    · cases h

end
end Go.Aev

end
section
/- Regions. -/
namespace Go.Aev

/-! ### what stands ahead of what -/

theorem beforesFrom_length : ∀ (l : List Oper) (acc : List Nat), (beforesFrom acc l).length = acc.length + l.length
  | [], acc => by simp [beforesFrom]
  | o :: r, acc => by rw [beforesFrom, beforesFrom_length r]; simp; omega

theorem beforesFrom_prefix : ∀ (l : List Oper) (acc : List Nat) (k : Nat), k < acc.length → (beforesFrom acc l)[k]? = acc[k]?
  | [], acc, k, _ => rfl
  | o :: r, acc, k, h => by
    rw [beforesFrom, beforesFrom_prefix r _ k (by simp; omega), List.getElem?_append_left h]

theorem beforesFrom_get : ∀ (l : List Oper) (acc : List Nat) (k : Nat) (o : Oper), l[k]? = some o → ∃ acc', acc'.length = acc.length + k ∧ (beforesFrom acc l)[acc.length + k]? = some (maskOf acc' o) ∧ ∀ j, j < acc'.length → acc'[j]? = (beforesFrom acc l)[j]?
  | [], acc, k, o, h => by simp at h
  | x :: r, acc, 0, o, h => by
    simp at h
    subst h
    refine ⟨acc, rfl, ?_, fun j hj => ?_⟩
    · rw [beforesFrom, beforesFrom_prefix r _ _ (by simp)]
      simp
    · rw [beforesFrom, beforesFrom_prefix r _ _ (by simp; omega), List.getElem?_append_left hj]
  | x :: r, acc, k + 1, o, h => by
    obtain ⟨acc', h1, h2, h3⟩ := beforesFrom_get r (acc ++ [maskOf acc x]) k o (by simpa using h)
    refine ⟨acc', by rw [h1]; simp; omega, ?_, fun j hj => ?_⟩
    · rw [beforesFrom]
      rw [show acc.length + (k + 1) = (acc ++ [maskOf acc x]).length + k by simp; omega]
      exact h2
    · rw [beforesFrom]; exact h3 j hj

theorem testBit_or {a b j : Nat} (h : Nat.testBit (a ||| b) j = true) : Nat.testBit a j = true ∨ Nat.testBit b j = true := by
  rw [Nat.testBit_or] at h
  simpa using h

theorem maskOf_bits {acc : List Nat} {o : Oper} {j : Nat} (h : Nat.testBit (maskOf acc o) j = true) : ∃ e ∈ o.after.toList, Region.binds .any e = true ∧ (e.on = j ∨ Nat.testBit (acc.getD e.on 0) j = true) := by
  unfold maskOf at h
  have main : ∀ (l : List Edge) (s : Nat), Nat.testBit (l.foldl (fun s e => cond (Region.binds .any e) (s ||| 2 ^ e.on ||| acc.getD e.on 0) s) s) j = true →
      Nat.testBit s j = true ∨ ∃ e ∈ l, Region.binds .any e = true ∧ (e.on = j ∨ Nat.testBit (acc.getD e.on 0) j = true) := by
    intro l
    induction l with
    | nil => intro s h; exact .inl h
    | cons e l ih =>
      intro s h
      rw [List.foldl_cons] at h
      rcases ih _ h with h | ⟨e', he', r⟩
      · cases hb : Region.binds .any e with
        | false => rw [hb, cond_false] at h; exact .inl h
        | true =>
          rw [hb, cond_true] at h
          rcases testBit_or h with h | h
          · rcases testBit_or h with h | h
            · exact .inl h
            · right
              refine ⟨e, by simp, hb, .inl ?_⟩
              rw [Nat.testBit_two_pow] at h
              simpa using h
          · exact .inr ⟨e, by simp, hb, .inr h⟩
      · exact .inr ⟨e', by simp [he'], r⟩
  rcases main _ _ h with h | h
  · simp at h
  · exact h

section
variable {C : Cfg} {call : CallFn} {f : FuncId} {ops : Array Oper}

theorem befores_get {l : List Oper} {k : Nat} {o : Oper} (h : l[k]? = some o) : ∃ acc', acc'.length = k ∧ (befores l)[k]? = some (maskOf acc' o) ∧ ∀ j, j < k → acc'[j]? = (befores l)[j]? := by
  obtain ⟨acc', h1, h2, h3⟩ := beforesFrom_get l [] k o h
  simp only [List.length_nil, Nat.zero_add] at h1 h2
  exact ⟨acc', h1, h2, fun j hj => h3 j (by omega)⟩

/-- the unlisted ones, in the order of the text -/
def todo (n : Nat) (listed : Array Bool) : List Nat := (List.range n).filter fun i => !listed.getD i true

/-- whatever stands ahead of a listed one is listed -/
def Closed (b : List Nat) (n : Nat) (listed : Array Bool) : Prop := listed.size = n ∧ ∀ k, k < n → listed.getD k true = true → ∀ j, Nat.testBit (b.getD k 0) j = true → j < n → listed.getD j true = true

theorem drawOk_edges {b : List Nat} (h : drawOk C f ops b = true) : ∀ (j : Nat) o, ops[j]? = some o → ∀ e ∈ o.after.toList, Region.binds .any e = true → e.on < j := by
  intro j o hj e he hb
  simp only [drawOk, Bool.and_eq_true, List.all_eq_true, List.mem_range] at h
  have := h.1 j (Array.getElem?_eq_some_iff.1 hj).1
  rw [hj] at this
  simp only [Bool.and_eq_true, List.all_eq_true, Bool.or_eq_true, Bool.not_eq_true', decide_eq_true_eq] at this
  rcases this.1.1 e he with h | h
  · rw [hb] at h; cases h
  · exact h

theorem noWrite_firm {p : Option Nat} {m : Nat} (h : noWrite ops p m = true) {k : Nat} (hp : p = some k) {n : Nat} {z : Oper} (hn : m ≤ n) (hz : ops[n]? = some z) : z.dst ≠ some k := by
  subst hp
  simp only [noWrite, List.all_eq_true, List.mem_range, Bool.or_eq_true, decide_eq_true_eq] at h
  have := h n (Array.getElem?_eq_some_iff.1 hz).1
  rw [hz] at this
  rcases this with h | h
  · omega
  · simpa using h

theorem drawOk_firm {b : List Nat} (h : drawOk C f ops b = true) : Firm ops := by
  intro j o hj k hk n z hn hz
  simp only [drawOk, Bool.and_eq_true, List.all_eq_true, List.mem_range] at h
  have := h.1 j (Array.getElem?_eq_some_iff.1 hj).1
  rw [hj] at this
  simp only [Bool.and_eq_true] at this
  rcases hk with hk | hk
  · exact noWrite_firm this.1.2 hk hn hz
  · exact noWrite_firm this.2 hk hn hz

theorem drawDyn_pairs {b : List Nat} {s : St} (h : drawDyn ops b s = true) {i j : Nat} (hij : i < j) {x y : Oper} (hx : ops[i]? = some x) (hy : ops[j]? = some y) (hb : Nat.testBit (b.getD j 0) i = false) : apart s x y = true := by
  simp only [drawDyn, List.all_eq_true, List.mem_range] at h
  have := h j (Array.getElem?_eq_some_iff.1 hy).1 i hij
  rw [hb, hx, hy] at this
  simpa using this

theorem drawOk_pairs {b : List Nat} (h : drawOk C f ops b = true) {i j : Nat} (hij : i < j) {x y : Oper} (hx : ops[i]? = some x) (hy : ops[j]? = some y) (hb : Nat.testBit (b.getD j 0) i = false) : swapOk C f ops x y = true := by
  simp only [drawOk, Bool.and_eq_true, List.all_eq_true, List.mem_range] at h
  have := h.2 j (Array.getElem?_eq_some_iff.1 hy).1 i hij
  rw [hb, hx, hy] at this
  simpa using this

theorem ready_bits {l : List Oper} (hl : ops.toList = l) {listed : Array Bool} (hc : Closed (befores l) ops.size listed) {i : Nat} (hedge : ∀ (j : Nat) o, ops[j]? = some o → ∀ e ∈ o.after.toList, Region.binds .any e = true → e.on < j)
    (hr : i ∈ Region.ready .any ops listed) {j : Nat} (hb : Nat.testBit ((befores l).getD i 0) j = true) (hj : j < ops.size) : listed.getD j true = true := by
  simp only [Region.ready, List.mem_filter, List.mem_range, Bool.and_eq_true, Bool.not_eq_true'] at hr
  obtain ⟨hin, _, hall⟩ := hr
  have ho : ops[i]? = some ops[i] := Array.getElem?_eq_getElem hin
  rw [ho] at hall
  simp only [Option.map_some, Option.getD_some, Array.all_eq_true_iff_forall_mem] at hall
  have hlo : l[i]? = some ops[i] := by rw [← hl, Array.getElem?_toList, ho]
  obtain ⟨acc', h1, h2, h3⟩ := befores_get hlo
  rw [List.getD_eq_getElem?_getD, h2] at hb
  obtain ⟨e, he, hbind, hcase⟩ := maskOf_bits hb
  have heon : listed.getD e.on false = true := by
    have := hall e (by simpa using he)
    simpa [hbind] using this
  have hei := hedge i _ ho e he hbind
  have heon' : listed.getD e.on true = true := by
    have hlt : e.on < listed.size := by rw [hc.1]; omega
    simp only [Array.getD_eq_getD_getElem?, Array.getElem?_eq_getElem hlt, Option.getD_some] at heon ⊢
    exact heon
  rcases hcase with rfl | hbit
  · exact heon'
  · refine hc.2 e.on (by omega) heon' j ?_ hj
    rw [List.getD_eq_getElem?_getD] at hbit ⊢
    rw [← h3 e.on hei]
    exact hbit

theorem todo_set {n i : Nat} {listed : Array Bool} (hs : listed.size = n) : todo n (listed.setIfInBounds i true) = (todo n listed).filter fun k => k != i := by
  unfold todo
  rw [List.filter_filter]
  apply List.filter_congr
  intro k hk
  have hk : k < n := List.mem_range.1 hk
  by_cases hki : i = k
  · subst hki
    simp [Array.getD_eq_getD_getElem?, hs, hk]
  · have : (listed.setIfInBounds i true).getD k true = listed.getD k true := by
      simp only [Array.getD_eq_getD_getElem?, Array.getElem?_setIfInBounds, if_neg hki]
    rw [this]
    simp [Ne.symm hki]

theorem todo_sorted (n : Nat) (listed : Array Bool) : (todo n listed).Pairwise (· < ·) := List.Pairwise.filter _ (List.pairwise_lt_range)

theorem split_sorted {l : List Nat} {i : Nat} (hs : l.Pairwise (· < ·)) (hi : i ∈ l) : ∃ A B, l = A ++ i :: B ∧ (∀ j ∈ A, j < i) ∧ l.filter (fun k => k != i) = A ++ B := by
  obtain ⟨A, B, rfl⟩ := List.append_of_mem hi
  rw [List.pairwise_append] at hs
  obtain ⟨h1, h2, h3⟩ := hs
  rw [List.pairwise_cons] at h2
  refine ⟨A, B, rfl, fun j hj => h3 j hj i (by simp), ?_⟩
  rw [List.filter_append, List.filter_cons]
  simp only [bne_self_eq_false, Bool.false_eq_true, if_false]
  congr 1
  · rw [List.filter_eq_self]
    intro j hj
    have := h3 j hj i (by simp)
    simp; omega
  · rw [List.filter_eq_self]
    intro j hj
    have := h2.1 j hj
    simp; omega

variable {w0 : World} {M0 : Nat → Nat} {sm0 : List Nat} {X0 : Nat → Bool}

theorem Inv.stOk {g : Gh} {s : St} {a : Act} {w : World} (h : Inv C w0 M0 sm0 X0 g s a w) : StOk s := by
  intro t e he
  have hlt : t < a.tmps.size := by rw [h.tsize]; exact (List.getElem?_eq_some_iff.1 he).1
  have hr := (h.tm t e _ he (Array.getElem?_eq_getElem hlt)).1
  refine ⟨fun u off hx hn => ?_, fun vs hx c hc => ?_⟩
  · rw [hx] at hr
    obtain ⟨b, hb, _⟩ := hr.loc_inv
    rw [(h.lm u).2 hn] at hb
    cases hb
  · rw [hx] at hr
    obtain ⟨us, _, hl, hrr⟩ := hr.tup_inv
    obtain ⟨i, hi⟩ := List.getElem?_of_mem hc
    have hlt : i < us.size := by rw [← hl]; exact (List.getElem?_eq_some_iff.1 hi).1
    have := (hrr i c _ hi (Array.getElem?_eq_getElem hlt)).1
    generalize us[i] = u at this
    cases hx : c.1 <;> rw [hx] at this <;> first | rfl | cases this

theorem draw_any {Q : Exit → Act → World → Prop} (hC : CfgOk C) (hcall : CallOK C call) {sF : St} (hap : ∀ i j, i < j → ∀ x y, ops[i]? = some x → ops[j]? = some y → Nat.testBit ((befores ops.toList).getD j 0) i = false → apart sF x y = true) (hQ : ∀ a' w', Done C w0 M0 sm0 X0 sF a' w' → Q .normal a' w')
    {l : List Oper} (hl : ops.toList = l) (hok : drawOk C f ops (befores l) = true) {ns : Nat → Bool} (hns : ∀ i, noSigs C f l (befores l) i = true → ns i = true) :
    ∀ (fuel : Nat) (listed : Array Bool) (s : St) (a : Act) (w : World), Closed (befores l) ops.size listed → (todo ops.size listed).length ≤ fuel → stepsA C call f ops ns (todo ops.size listed) s = some sF →
      Done C w0 M0 sm0 X0 s a w → wpAny C.P .any ops Q fuel listed a w := by
  have hedge := drawOk_edges hok
  -- nothing ready: nothing left
  have hnone : ∀ listed : Array Bool, listed.size = ops.size → Region.ready .any ops listed = [] → todo ops.size listed = [] := by
    intro listed hsz hr
    cases ht : todo ops.size listed with
    | nil => rfl
    | cons i r =>
      exfalso
      have hmem : i ∈ todo ops.size listed := by rw [ht]; simp
      have hsort := todo_sorted ops.size listed
      rw [ht, List.pairwise_cons] at hsort
      simp only [todo, List.mem_filter, List.mem_range, Bool.not_eq_true'] at hmem
      have hin := hmem.1
      have ho : ops[i]? = some ops[i] := Array.getElem?_eq_getElem hin
      have : i ∈ Region.ready .any ops listed := by
        simp only [Region.ready, List.mem_filter, List.mem_range, Bool.and_eq_true, Bool.not_eq_true']
        refine ⟨hin, hmem.2, ?_⟩
        rw [ho]
        simp only [Option.map_some, Option.getD_some, Array.all_eq_true_iff_forall_mem]
        intro e he
        cases hbind : Region.binds .any e with
        | false => simp
        | true =>
        have hlt := hedge i _ ho e (by simpa using he) hbind
        have hlst : listed.getD e.on false = true := by
          have hlt' : e.on < listed.size := by omega
          cases hv : listed.getD e.on true with
          | true =>
            simp only [Array.getD_eq_getD_getElem?, Array.getElem?_eq_getElem hlt', Option.getD_some] at hv ⊢
            exact hv
          | false =>
            have hm : e.on ∈ todo ops.size listed := by
              simp only [todo, List.mem_filter, List.mem_range, Bool.not_eq_true']
              exact ⟨by omega, hv⟩
            rw [ht] at hm
            rcases List.mem_cons.1 hm with h | h
            · omega
            · have := hsort.1 _ h; omega
        simp [hlst]
      rw [hr] at this
      cases this
  intro fuel
  induction fuel with
  | zero =>
    intro listed s a w hc hlen hst hD
    have ht : todo ops.size listed = [] := List.eq_nil_of_length_eq_zero (by omega)
    rw [ht] at hst
    cases hst
    refine ⟨?_, hQ a w hD⟩
    cases hr : Region.ready .any ops listed with
    | nil => rfl
    | cons i r =>
      exfalso
      have : i ∈ Region.ready .any ops listed := by rw [hr]; simp
      simp only [Region.ready, List.mem_filter, List.mem_range, Bool.and_eq_true, Bool.not_eq_true'] at this
      have hm : i ∈ todo ops.size listed := by
        simp only [todo, List.mem_filter, List.mem_range, Bool.not_eq_true']
        exact ⟨this.1, this.2.1⟩
      rw [ht] at hm
      cases hm
  | succ fuel ih =>
    intro listed s a w hc hlen hst hD
    refine ⟨fun hr => ?_, fun i hi => ?_⟩
    · rw [hnone listed hc.1 hr] at hst
      cases hst
      exact hQ a w hD
    · have hi' := hi
      simp only [Region.ready, List.mem_filter, List.mem_range, Bool.and_eq_true, Bool.not_eq_true'] at hi'
      have hm : i ∈ todo ops.size listed := by
        simp only [todo, List.mem_filter, List.mem_range, Bool.not_eq_true']
        exact ⟨hi'.1, hi'.2.1⟩
      obtain ⟨A, B, hAB, hA, hfil⟩ := split_sorted (todo_sorted _ _) hm
      have ho : ops[i]? = some ops[i] := Array.getElem?_eq_getElem hi'.1
      obtain ⟨g, hI⟩ := hD
      rw [hAB] at hst
      have hbit : ∀ j ∈ A, Nat.testBit ((befores l).getD i 0) j = false ∧ j < ops.size := by
        intro j hj
        have hjn : j ∈ todo ops.size listed := by rw [hAB]; simp [hj]
        simp only [todo, List.mem_filter, List.mem_range, Bool.not_eq_true'] at hjn
        refine ⟨?_, hjn.1⟩
        cases hb : Nat.testBit ((befores l).getD i 0) j with
        | false => rfl
        | true =>
          have := ready_bits hl hc hedge hi hb hjn.1
          rw [hjn.2] at this
          cases this
      have hst' := pull (drawOk_firm hok) hI.stOk (by rw [← hAB]; exact todo_sorted _ _) (fun j hj => ?_) (fun j hj x y hx hy => hap j i (hA j hj) x y hx hy (by rw [hl]; exact (hbit j hj).1)) hst
      · simp only [stepsA, ho] at hst'
        rw [Option.bind_eq_some_iff] at hst'
        obtain ⟨s1, h1, h2⟩ := hst'
        refine stepA_sound hC hcall hI ho h1 fun a' w' hD' => ?_
        have hset : (listed.setIfInBounds i true).size = ops.size := by simp [hc.1]
        refine ih (listed.setIfInBounds i true) s1 a' w' ⟨hset, fun k hk hkl j hb hj => ?_⟩ ?_ ?_ hD'
        · have hgd : ∀ k, (listed.setIfInBounds i true).getD k true = if k = i then true else listed.getD k true := by
            intro k
            simp only [Array.getD_eq_getD_getElem?, Array.getElem?_setIfInBounds]
            by_cases h : i = k
            · subst h; simp [hc.1, hi'.1]
            · rw [if_neg h, if_neg (fun e => h e.symm)]
          rw [hgd] at hkl ⊢
          split
          · rfl
          · split at hkl
            · rename_i hki
              subst hki
              exact ready_bits hl hc hedge hi hb hj
            · exact hc.2 k hk hkl j hb hj
        · rw [todo_set hc.1, hfil]
          rw [hAB] at hlen
          simp at hlen ⊢
          omega
        · rw [todo_set hc.1, hfil]
          exact h2
      · intro x y hx hy
        have hji := hA j hj
        obtain ⟨hbit, hjn⟩ := hbit j hj
        refine ⟨drawOk_pairs hok hji hx hy hbit, fun hk => ?_, fun hk => ?_⟩
        · refine hns _ ?_
          simp only [noSigs, List.any_eq_true, List.mem_range, Bool.and_eq_true, bne_iff_ne, ne_eq, Bool.not_eq_true']
          refine ⟨j, by rw [← hl]; simpa using hjn, ⟨by omega, ?_⟩, ?_⟩
          · rw [← hl, Array.getElem?_toList, hx]; simpa using hk
          · rw [show max i j = i by omega, show min i j = j by omega]; exact hbit
        · refine hns _ ?_
          simp only [noSigs, List.any_eq_true, List.mem_range, Bool.and_eq_true, bne_iff_ne, ne_eq, Bool.not_eq_true']
          refine ⟨i, by rw [← hl]; simpa using hi'.1, ⟨by omega, ?_⟩, ?_⟩
          · rw [← hl, Array.getElem?_toList, hy]; simpa using hk
          · rw [show max j i = i by omega, show min j i = j by omega]; exact hbit

theorem draw_sound {Q : Exit → Act → World → Prop} (hC : CfgOk C) (hcall : CallOK C call) {s sF : St} (hap : ∀ i j, i < j → ∀ x y, ops[i]? = some x → ops[j]? = some y → Nat.testBit ((befores ops.toList).getD j 0) i = false → apart sF x y = true) (hQ : ∀ a' w', Done C w0 M0 sm0 X0 sF a' w' → Q .normal a' w')
    (hok : drawOk C f ops (befores ops.toList) = true) {ns : Nat → Bool} (hns : ∀ i, noSigs C f ops.toList (befores ops.toList) i = true → ns i = true) (hst : stepsA C call f ops ns (List.range ops.size) s = some sF) {a : Act} {w : World}
    (hD : Done C w0 M0 sm0 X0 s a w) {id : Nat} : (Code.region id ops true).wp C.P Q a w := by
  refine wp_region_any hC.mixed ?_
  obtain ⟨g, hI⟩ := hD
  have ht : todo ops.size (Array.replicate ops.size false) = List.range ops.size := by
    unfold todo
    rw [List.filter_eq_self]
    intro i hi
    have : i < ops.size := List.mem_range.1 hi
    simp [Array.getD_eq_getD_getElem?, this]
  refine draw_any hC hcall hap hQ rfl hok hns ops.size _ s a _ ⟨by simp, fun k hk hl => ?_⟩ (by rw [ht]; simp) (by rw [ht]; exact hst) ⟨g, hI.same rfl rfl rfl ⟨rfl, fun _ => Nat.le_succ _⟩⟩
  simp [Array.getD_eq_getD_getElem?, hk] at hl

/-- quiet operations change their own slots alone -/
theorem evD_quiet {ev : Operand → Ent} {lo : List (Option (List Ent))} {sg : Sig} {o : Oper} {d : Dl} (hq : opQuiet C o.op = true) (hev : ∀ g, (ev (.func g)).1 = .clo (.func g) [] []) (h : evD C call f true ev lo sg o some = some d) : ∃ e, d = .val e := by
  have hk : opKind C f o.dst o.op ≤ 2 ∧ isNew C o.op = false := by
    unfold opQuiet at hq
    unfold opKind isNew
    split at hq <;> first | (constructor <;> simp_all; done) | skip
    all_goals (try cases hq)
    all_goals (constructor <;> simp_all)
  rcases evD_kind hk.1 hev h with h1 | ⟨c, h1, h2⟩ | ⟨sg', e, h1, h2, h3⟩
  · exact h1
  · rw [hk.2] at h2; cases h2
  · cases h3

theorem stepA_quiet {s s' : St} {o : Oper} (hq : opQuiet C o.op = true) (h : stepA C call f true ops s o = some s') : s'.lo = s.lo ∧ s'.sg = s.sg ∧ s'.tm.length = s.tm.length ∧ ∀ t, o.dst ≠ some t → s'.tm[t]? = s.tm[t]? := by
  have hput : ∀ e, (s.put o.dst e).lo = s.lo ∧ (s.put o.dst e).sg = s.sg ∧ (s.put o.dst e).tm.length = s.tm.length ∧ ∀ t, o.dst ≠ some t → (s.put o.dst e).tm[t]? = s.tm[t]? := by
    intro e
    cases hd : o.dst with
    | none => exact ⟨rfl, rfl, rfl, fun _ _ => rfl⟩
    | some u => exact ⟨rfl, rfl, by simp [St.put], fun t ht => by simp only [St.put]; rw [List.getElem?_set, if_neg (fun e => ht (by rw [e]))]⟩
  unfold stepA at h
  split at h
  · rw [Option.map_eq_some_iff] at h
    obtain ⟨d, hd, rfl⟩ := h
    obtain ⟨e, rfl⟩ := evD_quiet hq (ev_func C s) hd
    exact hput e
  · cases h; exact hput _
  · cases h

theorem stepsA_quiet {l : List Oper} (hq : ∀ o ∈ l, opQuiet C o.op = true) : ∀ {is : List Nat} {s s' : St}, (∀ i ∈ is, ∀ o, ops[i]? = some o → o ∈ l) → stepsA C call f ops (fun _ => true) is s = some s' →
    s'.lo = s.lo ∧ s'.sg = s.sg ∧ s'.tm.length = s.tm.length ∧ ∀ t, (∀ o ∈ l, o.dst ≠ some t) → s'.tm[t]? = s.tm[t]?
  | [], s, s', _, h => by cases h; exact ⟨rfl, rfl, rfl, fun _ _ => rfl⟩
  | i :: is, s, s', hl, h => by
    simp only [stepsA] at h
    split at h
    · rename_i o ho
      rw [Option.bind_eq_some_iff] at h
      obtain ⟨s1, h1, h2⟩ := h
      have hmem := hl i (by simp) o ho
      obtain ⟨a1, a2, a3, a4⟩ := stepA_quiet (hq o hmem) h1
      obtain ⟨b1, b2, b3, b4⟩ := stepsA_quiet hq (fun j hj => hl j (by simp [hj])) h2
      exact ⟨b1.trans a1, b2.trans a2, b3.trans a3, fun t ht => (b4 t ht).trans (a4 t (ht o hmem))⟩
    · cases h

theorem junkT_length : ∀ (l : List Oper) (tm : List Ent), (junkT l tm).length = tm.length
  | [], tm => rfl
  | o :: r, tm => by
    rw [junkT, junkT_length r]
    cases o.dst <;> simp

theorem junkT_get : ∀ (l : List Oper) (tm : List Ent) (t : Nat) (e : Ent), (junkT l tm)[t]? = some e → e = (.junk, .none) ∨ (tm[t]? = some e ∧ ∀ o ∈ l, o.dst ≠ some t)
  | [], tm, t, e, h => .inr ⟨h, fun o ho => by cases ho⟩
  | o :: r, tm, t, e, h => by
    rw [junkT] at h
    rcases junkT_get r _ t e h with h | ⟨h1, h2⟩
    · exact .inl h
    · cases hd : o.dst with
      | none =>
        rw [hd] at h1
        refine .inr ⟨h1, fun x hx => ?_⟩
        rcases List.mem_cons.1 hx with rfl | hx
        · rw [hd]; simp
        · exact h2 x hx
      | some u =>
        rw [hd] at h1
        simp only [List.getElem?_set] at h1
        split at h1
        · split at h1
          · cases h1; exact .inl rfl
          · cases h1
        · rename_i hne
          refine .inr ⟨h1, fun x hx => ?_⟩
          rcases List.mem_cons.1 hx with rfl | hx
          · rw [hd]; simp; exact fun e => hne e
          · exact h2 x hx

theorem range_map_zero (n : Nat) : (List.range n).map (0 + ·) = List.range n := by
  rw [show ((0 + ·) : Nat → Nat) = id from by funext k; simp]; simp

theorem evReg_sound {β : Type} {id : Nat} {draw : Bool} {s : St} {K : St → Option β} {r : β} (hC : CfgOk C) (hcall : CallOK C call) (h : evReg C call f id ops draw s K = some r) (hs : StOk s) :
    ∃ s', K s' = some r ∧ Rel (ops.toList.filterMap (·.dst)) s s' ∧ StOk s' ∧ ∀ (w0 : World) (M0 : Nat → Nat) (sm0 : List Nat) (X0 : Nat → Bool) (Q : Exit → Act → World → Prop) (a : Act) (w : World), (∀ a' w', Done C w0 M0 sm0 X0 s' a' w' → Q .normal a' w') → Done C w0 M0 sm0 X0 s a w →
      (Code.region id ops draw).wp C.P Q a w := by
  have hW : ∀ (i : Nat) o, ops[i]? = some o → ∀ t, o.dst = some t → t ∈ ops.toList.filterMap (·.dst) := fun i o ho t ht =>
    List.mem_filterMap.2 ⟨o, by rw [← Array.getElem?_toList] at ho; exact List.mem_of_getElem? ho, ht⟩
  unfold evReg at h
  dsimp only at h
  cases hd : (draw && !drawOk C f ops (befores ops.toList)) with
  | true => rw [hd] at h; cases h
  | false =>
    rw [hd, cond_false] at h
    have hok : draw = true → drawOk C f ops (befores ops.toList) = true := by
      rintro rfl
      simpa using hd
    -- the machine's side
    have main : ∀ {ns : Nat → Bool} {sF : St}, (draw = true → ∀ i j, i < j → ∀ x y, ops[i]? = some x → ops[j]? = some y → Nat.testBit ((befores ops.toList).getD j 0) i = false → apart sF x y = true) → (draw = true → ∀ i, noSigs C f ops.toList (befores ops.toList) i = true → ns i = true) → stepsA C call f ops ns (List.range ops.size) s = some sF →
        ∀ (w0 : World) (M0 : Nat → Nat) (sm0 : List Nat) (X0 : Nat → Bool) (Q : Exit → Act → World → Prop) (a : Act) (w : World), (∀ a' w', Done C w0 M0 sm0 X0 sF a' w' → Q .normal a' w') → Done C w0 M0 sm0 X0 s a w → (Code.region id ops draw).wp C.P Q a w := by
      intro ns sF hap hns hst w0 M0 sm0 X0 Q a w hQ hD
      cases draw with
      | true => exact draw_sound hC hcall (hap rfl) hQ (hok rfl) (hns rfl) hst hD
      | false => exact wp_region (stepsA_sound hC hcall hQ hst hD)
    have hget : ∀ k, k < ops.toList.length → ops[0 + k]? = ops.toList[k]? := fun k _ => by rw [Nat.zero_add, Array.getElem?_toList]
    cases hj : C.join f id with
    | true =>
      rw [hj, cond_true] at h
      split at h
      · rename_i o hlast
        split at h
        · rename_i d hdst
          obtain ⟨hq, h⟩ := cond_any h
          simp only [List.all_eq_true] at hq
          rw [Option.bind_eq_some_iff] at h
          obtain ⟨e, h1, h2⟩ := h
          obtain ⟨s1, h3, h4, _⟩ := evOps_all hget h1
          rw [range_map_zero, Array.length_toList] at h3
          cases h4
          obtain ⟨q1, q2, q3, q4⟩ := stepsA_quiet (l := ops.toList) hq (fun i _ o ho => by rw [← Array.getElem?_toList] at ho; exact List.mem_of_getElem? ho) h3
          obtain ⟨_, hs1⟩ := stepsA_rel hW hs h3
          obtain ⟨e', hall, h5⟩ := decVal_any (γ := Ent) h2
          have h6 : handsOn e'.1 = true := by
            obtain ⟨e3, h7, h8⟩ := decVal_hands (hall some)
            cases h7; exact h8
          have hdm : d ∈ ops.toList.filterMap (·.dst) := List.mem_filterMap.2 ⟨o, List.mem_of_getLast? hlast, hdst⟩
          have hlen : (junkT ops.toList s.tm).length = s.tm.length := junkT_length _ _
          have hgt : ∀ k, k ∉ ops.toList.filterMap (·.dst) → ((junkT ops.toList s.tm).set d e')[k]? = s.tm[k]? := by
            intro k hk
            rw [List.getElem?_set, if_neg (fun hdk : d = k => hk (hdk ▸ hdm))]
            cases hv : (junkT ops.toList s.tm)[k]? with
            | none =>
              rw [List.getElem?_eq_none_iff] at hv
              rw [List.getElem?_eq_none (by omega)]
            | some x =>
              have hkl : k < s.tm.length := by rw [← hlen]; exact (List.getElem?_eq_some_iff.1 hv).1
              have key : ∀ (l : List Oper) (tm : List Ent), (∀ o ∈ l, o.dst ≠ some k) → (junkT l tm)[k]? = tm[k]? := by
                intro l
                induction l with
                | nil => intro tm _; rfl
                | cons o l ih =>
                  intro tm ho
                  rw [junkT, ih _ fun x hx => ho x (by simp [hx])]
                  cases hd : o.dst with
                  | none => rfl
                  | some u => simp only; rw [List.getElem?_set, if_neg (fun e => ho o (by simp) (by rw [hd, e]))]
              rw [← hv]
              exact key _ _ fun o ho e => hk (List.mem_filterMap.2 ⟨o, ho, e⟩)
          refine ⟨_, h5, ⟨by simp [hlen], rfl, fun k hk => ?_⟩, ?_, ?_⟩
          · have : gt ({ s with tm := (junkT ops.toList s.tm).set d e' } : St) k = gt s k := by
              simp only [gt, List.getD_eq_getElem?_getD]
              rw [hgt k hk]
            rw [this]
            exact .refl _
          · intro k x hx
            replace hx : ((junkT ops.toList s.tm).set d e')[k]? = some x := hx
            rw [List.getElem?_set] at hx
            split at hx
            · split at hx
              · cases hx; exact okV_hands h6
              · cases hx
            · rcases junkT_get _ _ _ _ hx with rfl | ⟨hx, _⟩
              · exact okV_junk _
              · exact hs k x hx
          · intro w0 M0 sm0 X0 Q a w hQ hD
            have hap : ∀ i j, i < j → ∀ x y, ops[i]? = some x → ops[j]? = some y → Nat.testBit ((befores ops.toList).getD j 0) i = false → apart s1 x y = true := by
              intro i j _ x y hx hy _
              have hn : ∀ {i : Nat} {x : Oper}, ops[i]? = some x → stPtr x.op = none := by
                intro i x hx
                have := hq x (by rw [← Array.getElem?_toList] at hx; exact List.mem_of_getElem? hx)
                cases hs : stPtr x.op with
                | none => rfl
                | some k =>
                  obtain ⟨t, v, hop⟩ := stPtr_some hs
                  simp [opQuiet, hop] at this
              simp [apart, hn hx, hn hy]
            refine main (fun _ => hap) (fun _ i _ => rfl) h3 w0 M0 sm0 X0 Q a w (fun a' w' ⟨g, hI⟩ => hQ a' w' ?_) hD
            refine ⟨g, hI.os, hI.tape, hI.output, hI.hsize, hI.frame, hI.fm, hI.smp, hI.defers, ?_, ?_, ?_, ?_, ?_, ?_, hI.bufs, hI.glob, hI.low⟩
            · rw [hI.tsize, q3]; simp [hlen]
            · intro k x v hx hv
              replace hx : ((junkT ops.toList s.tm).set d e')[k]? = some x := hx
              rw [List.getElem?_set] at hx
              split at hx
              · rename_i hdk
                subst hdk
                split at hx
                · rename_i hlt
                  cases hx
                  have hlt' : d < s1.tm.length := by rw [q3]; rw [hlen] at hlt; exact hlt
                  have he := hI.tm d _ v (List.getElem?_eq_getElem hlt') hv
                  have hval : s1.tm.getD d (.junk, .none) = s1.tm[d] := by simp [List.getD_eq_getElem?_getD, hlt']
                  rw [hval] at h2
                  rw [hval] at hall
                  obtain ⟨e3, h7, h8⟩ := decVal_rep (hall some) he.1
                  cases h7
                  exact h8
                · cases hx
              · rcases junkT_get _ _ _ _ hx with rfl | ⟨hx, hne⟩
                · exact ⟨.junk v, trivial⟩
                · rw [← q4 k hne] at hx
                  exact hI.tm k x v hx hv
            · intro t; rw [hI.lm t, q1]
            · intro t b cells ht hc
              exact hI.lo t b cells ht (by rw [q1]; exact hc)
            · show s.sg.length = _; rw [← q2]; exact hI.sglen
            · intro i b bx hi hbx
              exact hI.sg i b bx hi (by rw [q2]; exact hbx)
        · cases h
      · cases h
    | false =>
      rw [hj, cond_false] at h
      obtain ⟨s1, h3, h4, _⟩ := evOps_all hget h
      rw [range_map_zero, Array.length_toList] at h3
      obtain ⟨h5, h6⟩ := stepsA_rel hW hs h3
      cases hy : (draw && !drawDyn ops (befores ops.toList) s1) with
      | true => rw [hy] at h4; cases h4
      | false =>
        rw [hy, cond_false] at h4
        refine ⟨s1, h4, h5, h6, main (fun hd => ?_) (fun hd i hi => by rw [hd, hi]; rfl) h3⟩
        subst hd
        have hy' : drawDyn ops (befores ops.toList) s1 = true := by simpa using hy
        exact fun i j hij x y hx hy hb => drawDyn_pairs hy' hij hx hy hb
end
end Go.Aev

end
section
/- What goes through a loop. -/
namespace Go.Aev

section
variable {β : Type} {r : β}

theorem packM_any {γ : Type} {s : St} : ∀ {ms : List (Nat × TypeId × Own)} {β : Type} {K : List AVal → List Nat → Option β} {r : β}, packM s ms K = some r →
    ∃ l m, (∀ G : List AVal → List Nat → Option γ, packM s ms G = G l m) ∧ K l m = some r
  | [], β, K, r, h => ⟨[], [], fun _ => rfl, h⟩
  | (t, ty, w) :: ms, β, K, r, h => by
    simp only [packM] at h
    obtain ⟨h1, h2⟩ := cond_any h
    split at h2
    · rename_i d hd
      obtain ⟨l, m, h3, h4⟩ := packM_any (γ := γ) h2
      rw [hd] at h1
      exact ⟨_, _, fun G => by simp only [packM, hd, h1, cond_true]; exact h3 _, h4⟩
    · rename_i d hd
      obtain ⟨l, m, h3, h4⟩ := packM_any (γ := γ) h2
      rw [hd] at h1
      exact ⟨_, _, fun G => by simp only [packM, hd, h1, cond_true]; exact h3 _, h4⟩
    · cases h2

theorem packB_any {γ : Type} {s : St} : ∀ {ms : List (Nat × TypeId × List Own)} {β : Type} {K : List AVal → List Nat → Option β} {r : β}, packB s ms K = some r →
    ∃ l m, (∀ G : List AVal → List Nat → Option γ, packB s ms G = G l m) ∧ K l m = some r
  | [], β, K, r, h => ⟨[], [], fun _ => rfl, h⟩
  | (t, ty, ws) :: ms, β, K, r, h => by
    simp only [packB] at h
    split at h
    · rename_i cs hcs
      split at h
      · rename_i m hm
        obtain ⟨l, n, h3, h4⟩ := packB_any (γ := γ) h
        exact ⟨_, _, fun G => by simp only [packB, hcs, hm]; exact h3 _, h4⟩
      · cases h
    · cases h

theorem packV_any {γ : Type} {L : LoopCfg} {s : St} {K : Vars → Option β} (h : packV L s K = some r) : ∃ v, (∀ G : Vars → Option γ, packV L s G = G v) ∧ K v = some r := by
  unfold packV at h
  obtain ⟨h1, h2⟩ := cond_any h
  obtain ⟨l, m, h3, h4⟩ := packM_any (γ := γ) h2
  obtain ⟨l', m', h5, h6⟩ := packB_any (γ := γ) h4
  obtain ⟨h7, h8⟩ := cond_any h6
  exact ⟨_, fun G => by simp only [packV, h1, cond_true]; rw [h3, h5, h7, cond_true], h8⟩

theorem decMod_any {γ : Type} {P : Program} {ty : TypeId} {w : Own} {a : AVal} {K : Ent → Option β} (h : decMod P ty w a K = some r) :
    ∃ e, (∀ G : Ent → Option γ, decMod P ty w a G = G e) ∧ K e = some r ∧ handsOn e.1 = true := by
  unfold decMod at h
  split at h
  · rename_i t n
    obtain ⟨e, h1, h2⟩ := decVal_any (γ := γ) h
    split at h2
    · rename_i es hes
      obtain ⟨h3, h4⟩ := cond_any h2
      exact ⟨_, fun G => by simp only [decMod]; rw [h1]; simp only [hes, h3, cond_true], h4, rfl⟩
    · cases h2
  · rename_i hne
    obtain ⟨e, hall, hK⟩ := decVal_any (γ := Ent) h
    obtain ⟨e', hG, he'⟩ := decVal_any (γ := γ) (hall some)
    obtain ⟨e2, h7, h8⟩ := decVal_hands (hall some)
    cases he'
    cases h7
    refine ⟨(e.1, .none), fun G => ?_, hK, h8⟩
    cases w with
    | id t n => exact absurd rfl (hne t n)
    | none => exact hG fun e => G (e.1, .none)
    | full => exact hG fun e => G (e.1, .none)

theorem decMod_rep {P : Program} {ty : TypeId} {o : Own} {x : AVal} {e : Ent} {w : World} {g : Gh} {base : Nat} {v : Value} (h : decMod P ty o x some = some e) (hx : RepA w g base x v) (ho : OwnOk w g base o v) :
    RepE w g base e v := by
  unfold decMod at h
  split at h
  · rename_i t n
    obtain ⟨e', h1, h2⟩ := decVal_rep h (show RepA w g base (x, Own.none).1 v from hx)
    split at h1
    · rename_i es hes
      obtain ⟨h3, h4⟩ := cond_any h1
      cases h4
      have := h2.1
      rw [hes] at this
      exact ⟨this, ho⟩
    · cases h1
  · obtain ⟨e', h1, h2⟩ := decVal_rep h (show RepA w g base (x, Own.none).1 v from hx)
    cases h1
    exact ⟨h2.1, trivial⟩

theorem unpackM_any {γ : Type} {P : Program} : ∀ {ms : List (Nat × TypeId × Own)} {tm : List Ent} {l : List AVal} {β : Type} {K : List Ent → List AVal → Option β} {r : β}, unpackM P tm ms l K = some r →
    ∃ tm' l', (∀ G : List Ent → List AVal → Option γ, unpackM P tm ms l G = G tm' l') ∧ K tm' l' = some r ∧ tm'.length = tm.length ∧ (∀ k, (∀ m ∈ ms, m.1 ≠ k) → tm'[k]? = tm[k]?) ∧
      ∀ (k : Nat) e, tm'[k]? = some e → tm[k]? = some e ∨ handsOn e.1 = true
  | [], tm, l, β, K, r, h => ⟨tm, l, fun _ => rfl, h, rfl, fun _ _ => rfl, fun _ _ h => .inl h⟩
  | (t, ty, w) :: ms, tm, [], β, K, r, h => by cases h
  | (t, ty, w) :: ms, tm, a :: l, β, K, r, h => by
    simp only [unpackM] at h
    obtain ⟨e, h1, h2, h3⟩ := decMod_any (γ := γ) h
    obtain ⟨tm', l', h4, h5, h6, h7, h8⟩ := unpackM_any (γ := γ) h2
    refine ⟨tm', l', fun G => by simp only [unpackM]; rw [h1, h4], h5, by rw [h6]; simp, fun k hk => ?_, fun k e' he' => ?_⟩
    · rw [h7 k fun m hm => hk m (by simp [hm]), List.getElem?_set, if_neg (hk _ List.mem_cons_self)]
    · rcases h8 k e' he' with h | h
      · rw [List.getElem?_set] at h
        split at h
        · split at h
          · cases h; exact .inr h3
          · cases h
        · exact .inl h
      · exact .inr h

theorem unpackB_any {γ : Type} {P : Program} : ∀ {bs : List (Nat × TypeId × List Own)} {lo : List (Option (List Ent))} {l : List AVal} {β : Type} {K : List (Option (List Ent)) → Option β} {r : β}, unpackB P lo bs l K = some r →
    ∃ lo', (∀ G : List (Option (List Ent)) → Option γ, unpackB P lo bs l G = G lo') ∧ K lo' = some r ∧ lo'.length = lo.length ∧ (∀ t, (∀ b ∈ bs, b.1 ≠ t) → lo'[t]? = lo[t]?) ∧
      ∀ t, t < lo.length → (lo.getD t none ≠ none ∨ ∃ b ∈ bs, b.1 = t) → lo'.getD t none ≠ none
  | [], lo, [], β, K, r, h => ⟨lo, fun _ => rfl, h, rfl, fun _ _ => rfl, fun t _ h => by
      rcases h with h | ⟨b, hb, _⟩
      · exact h
      · cases hb⟩
  | [], lo, _ :: _, β, K, r, h => by cases h
  | (t, ty, ws) :: bs, lo, [], β, K, r, h => by cases h
  | (t, ty, ws) :: bs, lo, a :: l, β, K, r, h => by
    simp only [unpackB] at h
    split at h
    · rename_i ps hps
      obtain ⟨cs, rfl, h⟩ := asAgg_some h
      obtain ⟨h1, h2⟩ := cond_any h
      obtain ⟨ds, h3, h4⟩ := cellsAt_any (γ := γ) h2
      obtain ⟨lo', h5, h6, h7, h8, h9⟩ := unpackB_any (γ := γ) h4
      refine ⟨lo', fun G => ?_, h6, by rw [h7]; simp, fun k hk => ?_, fun k hk hkk => ?_⟩
      · simp only [unpackB, hps, asAgg, h1, cond_true]
        rw [h3, h5]
      · rw [h8 k fun m hm => hk m (by simp [hm]), List.getElem?_set, if_neg (hk _ List.mem_cons_self)]
      · refine h9 k (by simpa using hk) ?_
        by_cases htk : t = k
        · subst htk
          left
          simp [List.getD_eq_getElem?_getD, hk]
        · rcases hkk with h | ⟨b, hb, rfl⟩
          · left
            simp only [List.getD_eq_getElem?_getD] at h ⊢
            rw [List.getElem?_set, if_neg htk]
            exact h
          · rcases List.mem_cons.1 hb with rfl | hb
            · exact absurd rfl htk
            · exact .inr ⟨b, hb, rfl⟩
    · cases h

theorem unpackV_any {γ : Type} {C : Cfg} {L : LoopCfg} {s : St} {v : Vars} {K : St → Option β} (h : unpackV C L s v K = some r) : ∃ s1, (∀ G : St → Option γ, unpackV C L s v G = G s1) ∧ K s1 = some r := by
  unfold unpackV at h
  obtain ⟨tm, l, h1, h2, _⟩ := unpackM_any (γ := γ) h
  obtain ⟨lo, h3, h4, _⟩ := unpackB_any (γ := γ) h2
  exact ⟨_, fun G => by simp only [unpackV]; rw [h1, h3], h4⟩

theorem keepT_length (l : List Nat) : ∀ (i : Nat) (tm : List Ent), (keepT l i tm).length = tm.length
  | _, [] => rfl
  | i, e :: r => by simp [keepT, keepT_length l (i + 1) r]

theorem keepT_get (l : List Nat) : ∀ (i : Nat) (tm : List Ent) (k : Nat), (keepT l i tm)[k]? = tm[k]?.map fun e => cond (l.contains (i + k)) (stripA e.1, .none) (.junk, .none)
  | _, [], k => by simp [keepT]
  | i, e :: r, 0 => by simp [keepT]
  | i, e :: r, k + 1 => by
    simp only [keepT, List.getElem?_cons_succ]
    rw [keepT_get l (i + 1) r k, show i + 1 + k = i + (k + 1) by omega]

structure KeepsOk (C : Cfg) (f : FuncId) (i : Nat) (L : LoopCfg) (s : St) (x : Code) : Prop where
  kw : ∀ k ∈ L.keeps, k ∉ writesOf C f x i
  loc : ∀ k ∈ L.keeps, ∀ t off, (gt s k).1 = .loc t off → ∃ b ∈ L.boxes, b.1 = t
  tup : ∀ k ∈ L.keeps, ∀ vs, (gt s k).1 ≠ .tup vs
  nd : nodupN ((L.mods.filterMap fun m => match m.2.2 with
    | .id t _ => some t
    | _ => none) ++ L.boxes.flatMap fun b => b.2.2.filterMap fun | .id t _ => some t | _ => none) = true
  mn : ∀ m ∈ L.mods, m.1 ∉ L.keeps

theorem keepsOk_some {C : Cfg} {f : FuncId} {i : Nat} {L : LoopCfg} {s : St} {x : Code} (h : keepsOk C f i L s x = true) : KeepsOk C f i L s x := by
  simp only [keepsOk, Bool.and_eq_true, List.all_eq_true] at h
  obtain ⟨⟨⟨⟨h1, h2⟩, _⟩, _⟩, h3⟩ := h
  refine ⟨fun k hk => ?_, fun k hk t off e => ?_, fun k hk vs e => ?_, h2, fun m hm => ?_⟩
  · have := (h1 k hk).1; simpa using this
  · have := (h1 k hk).2
    rw [show s.tm.getD k (.undef, .none) = gt s k from rfl, e] at this
    simpa using this
  · have := (h1 k hk).2
    rw [show s.tm.getD k (.undef, .none) = gt s k from rfl, e] at this
    cases this
  · have := h3 m hm; simpa using this

theorem core_strip {x : AVal} (h : ∀ vs, x ≠ .tup vs) : core (stripA x) = core x := by
  cases x <;> try rfl
  simp [core, stripA]

theorem unpackV_shape {C : Cfg} {f : FuncId} {i : Nat} {L : LoopCfg} {s s1 : St} {v : Vars} {x : Code} (hk : KeepsOk C f i L s x) (h : unpackV C L s v some = some s1) : Rel (L.mods.map (·.1)) s s1 ∧ (StOk s → StOk s1) ∧ s1.sg = v.2 := by
  unfold unpackV at h
  obtain ⟨tm, l, h1, h2, h3, h4, h5⟩ := unpackM_any (γ := St) h
  obtain ⟨lo, h6, h7, h8, h9, h10⟩ := unpackB_any (γ := St) h2
  cases h7
  refine ⟨⟨by simp [h3, keepT_length], by simp [h8], fun k hw => ?_⟩, fun hs k e he => ?_, rfl⟩
  · have hm : ∀ m ∈ L.mods, m.1 ≠ k := fun m hm e => hw (List.mem_map.2 ⟨m, hm, e⟩)
    have hg : (tm[k]? : Option Ent) = s.tm[k]?.map fun e => cond (L.keeps.contains k) (stripA e.1, .none) (.junk, .none) := by
      rw [h4 k hm, keepT_get, Nat.zero_add]
    have hg1 : gt { tm := tm, lo := lo, sg := v.2 } k = (s.tm[k]?.map fun e => cond (L.keeps.contains k) (stripA e.1, Own.none) (.junk, .none)).getD (.undef, .none) := by
      show tm.getD k _ = _
      rw [List.getD_eq_getElem?_getD, hg]
    have hg0 : gt s k = s.tm[k]?.getD (.undef, .none) := List.getD_eq_getElem?_getD ..
    rw [hg1]
    cases hx : s.tm[k]? with
    | none => rw [hg0, hx]; exact .refl _
    | some e =>
      rw [hx] at hg0
      rw [hg0]
      cases hc : L.keeps.contains k with
      | false => exact .inl rfl
      | true =>
        refine .inr ?_
        have hkk : k ∈ L.keeps := by simpa using hc
        refine core_strip fun vs he => hk.tup k hkk vs ?_
        rw [hg0]; exact he
  · rcases h5 k e he with h | h
    · rw [keepT_get, Nat.zero_add] at h
      rw [Option.map_eq_some_iff] at h
      obtain ⟨e0, h11, rfl⟩ := h
      cases hc : L.keeps.contains k with
      | false => exact okV_junk _
      | true =>
        have hkk : k ∈ L.keeps := by simpa using hc
        have hgt : gt s k = e0 := by unfold gt; rw [List.getD_eq_getElem?_getD, h11]; rfl
        have hok := hs k e0 h11
        refine ⟨fun u off e => ?_, fun vs e => ?_⟩
        · replace e : stripA e0.1 = .loc u off := e
          have e' : e0.1 = .loc u off := by
            cases hx : e0.1 <;> rw [hx] at e <;> first | exact e | cases e
          have hlo := hok.1 u off e'
          have hlt : u < s.lo.length := by
            rcases Nat.lt_or_ge u s.lo.length with h | h
            · exact h
            · exact absurd (by simp [List.getD_eq_getElem?_getD, List.getElem?_eq_none h]) hlo
          obtain ⟨b, hb, hbu⟩ := hk.loc k hkk u off (by rw [hgt]; exact e')
          exact h10 u (by simpa using hlt) (.inr ⟨b, hb, hbu⟩)
        · replace e : stripA e0.1 = .tup vs := e
          have e' : e0.1 = .tup vs := by
            cases hx : e0.1 <;> rw [hx] at e <;> first | exact e | cases e
          exact absurd (by rw [hgt]; exact e') (hk.tup k hkk vs)
    · exact okV_hands h

/-! ### the marks are given anew -/

/-- the new mark, its size, the value that bears it, and the mark that it bore -/
abbrev Neu := Nat × Nat × Value × Option Nat

def NewOk (w : World) (g : Gh) (base : Nat) (x : Neu) : Prop :=
  match x.2.2.2 with
  | none => ∃ a n, x.2.2.1 = .slice a n n ∧ (strictO x.1 = true → n = 0)
  | some t => OwnOk w g base (.id t x.2.1) x.2.2.1 ∧ (strictO x.1 = true → strictO t = true)

def wantId : Own → List Nat
  | .id t _ => [t]
  | _ => []

def olds (l : List Neu) : List Nat := l.flatMap fun x => x.2.2.2.toList

theorem coerce_new {w : World} {g : Gh} {base : Nat} {o o' : Own} {v : Value} (h : coerceO o o' = true) (ho : OwnOk w g base o v) (hst : ∀ t n, o' = .id t n → strictO t = true → (∃ s m, o = .id s m ∧ strictO s = true) ∨ ((∀ s m, o ≠ .id s m) ∧ ∀ a n, v = .slice a n n → n = 0)) : ∃ news : List Neu, (∀ x ∈ news, NewOk w g base x) ∧ news.map (·.1) = wantId o' ∧
    olds news = marksO o o' ∧ ∀ g', (∀ x ∈ news, OwnOk w g' base (.id x.1 x.2.1) x.2.2.1) → OwnOk w g' base o' v := by
  cases o' with
  | none => exact ⟨[], fun x hx => (by cases hx), rfl, by cases o <;> rfl, fun _ _ => trivial⟩
  | full => cases o <;> cases h
  | id t n =>
    cases o with
    | none => cases h
    | full =>
      refine ⟨[(t, n, v, none)], fun x hx => ?_, rfl, rfl, fun g' hg => hg _ List.mem_cons_self⟩
      simp only [List.mem_singleton] at hx
      subst hx
      obtain ⟨a, k, hv⟩ := ho
      refine ⟨a, k, hv, fun hs => ?_⟩
      rcases hst t n rfl hs with ⟨s, m, e, _⟩ | ⟨_, h⟩
      · cases e
      · exact h a k hv
    | id u m =>
      have : n = m := by simpa [coerceO] using h
      subst this
      refine ⟨[(t, n, v, some u)], fun x hx => ?_, rfl, rfl, fun g' hg => hg _ List.mem_cons_self⟩
      simp only [List.mem_singleton] at hx
      subst hx
      refine ⟨ho, fun hs => ?_⟩
      rcases hst t n rfl hs with ⟨s, m, e, h⟩ | ⟨h, _⟩
      · cases e; exact h
      · exact absurd rfl (h u n)

theorem olds_append (a b : List Neu) : olds (a ++ b) = olds a ++ olds b := by simp [olds]

def ModsOk (w : World) (g : Gh) (base : Nat) (a : Act) : List (Nat × TypeId × Own) → List AVal → Prop
  | [], _ => True
  | (t, _, o) :: r, x :: l => (∀ v, a.tmps[t]? = some v → RepA w g base x v ∧ OwnOk w g base o v) ∧ ModsOk w g base a r l
  | _ :: _, [] => False

theorem repA_same {w : World} {g g' : Gh} {base : Nat} (hM : g'.M = g.M) {d : Dat} {v : Value} (h : RepA w g base (.dat d) v) : RepA w g' base (.dat d) v := by
  refine .dat ?_
  rw [hM]
  exact h.dat_inv

theorem repA_sameAgg {w : World} {g g' : Gh} {base : Nat} (hM : g'.M = g.M) {cs : List (Dat × Own)} {v : Value} (h : RepA w g base (.agg cs) v) : RepA w g' base (.agg (cs.map fun c => (c.1, .none))) v := by
  obtain ⟨vs, rfl, hl, hr⟩ := h.agg_inv
  refine .agg (by simpa using hl) fun i c v hc hv => ?_
  simp only [List.getElem?_map, Option.map_eq_some_iff] at hc
  obtain ⟨c0, hc0, rfl⟩ := hc
  rw [hM]
  exact ⟨(hr i c0 v hc0 hv).1, trivial⟩

theorem packM_news {s : St} {a : Act} {w : World} {g : Gh} {base : Nat} (hsz : a.tmps.size = s.tm.length) (htm : ∀ (t : Nat) e v, s.tm[t]? = some e → a.tmps[t]? = some v → RepE w g base e v) :
    ∀ {ms : List (Nat × TypeId × Own)} {β : Type} {K : List AVal → List Nat → Option β} {r : β}, packM s ms K = some r →
    ∃ l m news, K l m = some r ∧ l.length = ms.length ∧ (∀ x ∈ news, NewOk w g base x) ∧ news.map (·.1) = ms.flatMap (fun m => wantId m.2.2) ∧ olds news = m ∧
      ∀ g', g'.M = g.M → (∀ x ∈ news, OwnOk w g' base (.id x.1 x.2.1) x.2.2.1) → ∀ rest, ModsOk w g' base a ms (l ++ rest)
  | [], β, K, r, h => ⟨[], [], [], h, rfl, fun x hx => (by cases hx), rfl, rfl, fun _ _ _ _ => trivial⟩
  | (t, ty, o) :: ms, β, K, r, h => by
    simp only [packM] at h
    obtain ⟨h1, h2⟩ := cond_any h
    cases hlt : s.tm[t]? with
    | none =>
      have : s.tm.getD t (.undef, .none) = (.undef, .none) := by rw [List.getD_eq_getElem?_getD, hlt]; rfl
      rw [this] at h2
      cases h2
    | some e =>
      have he : s.tm.getD t (.undef, .none) = e := by rw [List.getD_eq_getElem?_getD, hlt]; rfl
      rw [he] at h1 h2
      have hlt' : t < a.tmps.size := by rw [hsz]; exact (List.getElem?_eq_some_iff.1 hlt).1
      have hv : a.tmps[t]? = some a.tmps[t] := Array.getElem?_eq_getElem hlt'
      have hr := htm t e _ hlt hv
      rw [Bool.and_eq_true] at h1
      obtain ⟨n1, a1, a2, a3, a4⟩ := coerce_new h1.1 hr.2 (fun t' n' ho hs => by
        have h3 := h1.2
        rw [ho] at h3
        cases he2 : e.2 with
        | none => rw [he2, ho] at h1; cases h1.1
        | full =>
          refine .inr ⟨fun _ _ h => (by cases h), fun a' k hv' => ?_⟩
          rw [he2] at h3
          have h3 : (!strictO t' || isNilS e.1) = true := h3
          rw [hs] at h3
          have hr1 := hr.1
          cases hx : e.1 with
          | dat d =>
            rw [hx] at h3 hr1
            cases d with
            | sl es =>
              cases es with
              | nil =>
                rw [hv'] at hr1
                cases hr1.dat_inv with
                | nilS => rfl
                | sl vs hn => simpa using hn.symm
              | cons => cases h3
            | _ => cases h3
          | _ => rw [hx] at h3; cases h3
        | id s m =>
          rw [he2] at h3
          have h3 : (!strictO t' || strictO s) = true := h3
          rw [hs] at h3
          exact .inl ⟨s, m, rfl, h3⟩)
      split at h2
      · rename_i d hd
        obtain ⟨l, m, n2, b1, bl, b2, b3, b4, b5⟩ := packM_news hsz htm h2
        refine ⟨_, _, n1 ++ n2, b1, by simp [bl], fun x hx => ?_, by rw [List.map_append, a2, b3]; rfl, by rw [olds_append, a3, b4], fun g' hM hg rest => ⟨fun v hv' => ?_, b5 g' hM (fun x hx => hg x (by simp [hx])) rest⟩⟩
        · rcases List.mem_append.1 hx with h | h
          · exact a1 x h
          · exact b2 x h
        · rw [hv] at hv'
          cases hv'
          refine ⟨?_, a4 g' fun x hx => hg x (by simp [hx])⟩
          have := hr.1
          rw [hd] at this
          exact repA_same hM this
      · rename_i cs hd
        obtain ⟨l, m, n2, b1, bl, b2, b3, b4, b5⟩ := packM_news hsz htm h2
        refine ⟨_, _, n1 ++ n2, b1, by simp [bl], fun x hx => ?_, by rw [List.map_append, a2, b3]; rfl, by rw [olds_append, a3, b4], fun g' hM hg rest => ⟨fun v hv' => ?_, b5 g' hM (fun x hx => hg x (by simp [hx])) rest⟩⟩
        · rcases List.mem_append.1 hx with h | h
          · exact a1 x h
          · exact b2 x h
        · rw [hv] at hv'
          cases hv'
          refine ⟨?_, a4 g' fun x hx => hg x (by simp [hx])⟩
          have := hr.1
          rw [hd] at this
          exact repA_sameAgg hM this
      · cases h2

theorem boxO_news {w : World} {g : Gh} {base : Nat} : ∀ {cs : List (Dat × Own)} {ws : List Own} {m : List Nat} {f : Nat → Value}, boxO cs ws = some m → (∀ (i : Nat) (c : Dat × Own), cs[i]? = some c → OwnOk w g base c.2 (f i)) →
    cs.length = ws.length ∧ ∃ news : List Neu, (∀ x ∈ news, NewOk w g base x) ∧ news.map (·.1) = ws.flatMap wantId ∧ olds news = m ∧
      ∀ g', (∀ x ∈ news, OwnOk w g' base (.id x.1 x.2.1) x.2.2.1) → ∀ (i : Nat) (o : Own), ws[i]? = some o → OwnOk w g' base o (f i)
  | [], [], m, f, h, _ => by
    cases h
    exact ⟨rfl, [], fun x hx => (by cases hx), rfl, rfl, fun g' _ i o ho => by simp at ho⟩
  | [], _ :: _, m, f, h, _ => by cases h
  | _ :: _, [], m, f, h, _ => by cases h
  | c :: cs, o :: ws, m, f, h, hr => by
    simp only [boxO] at h
    obtain ⟨h1, h2⟩ := cond_any h
    rw [Option.map_eq_some_iff] at h2
    obtain ⟨m', h3, rfl⟩ := h2
    rw [Bool.and_eq_true] at h1
    obtain ⟨n1, a1, a2, a3, a4⟩ := coerce_new h1.1 (hr 0 c rfl) (fun t' n' ho hs => by
      have h3 := h1.2
      rw [ho] at h3
      have h3 : (!strictO t') = true := h3
      rw [hs] at h3
      cases h3)
    obtain ⟨hl, n2, b1, b2, b3, b4⟩ := boxO_news (f := fun i => f (i + 1)) h3 fun i c hc => hr (i + 1) c (by simpa using hc)
    refine ⟨by simp [hl], n1 ++ n2, fun x hx => ?_, by rw [List.map_append, a2, b2]; rfl, by rw [olds_append, a3, b3], fun g' hg i o' ho => ?_⟩
    · rcases List.mem_append.1 hx with h | h
      · exact a1 x h
      · exact b1 x h
    · cases i with
      | zero => simp at ho; subst ho; exact a4 g' fun x hx => hg x (by simp [hx])
      | succ i => exact b4 g' (fun x hx => hg x (by simp [hx])) i o' (by simpa using ho)

def BoxesOk (w : World) (g : Gh) (base : Nat) (lm : Nat → Option Nat) : List (Nat × TypeId × List Own) → List AVal → Prop
  | [], [] => True
  | (t, _, ws) :: r, x :: l => (∃ b cur T cs, lm t = some b ∧ w.heap[b]? = some (.cells cur T (0, 0)) ∧ g.M b = 0 ∧ x = .agg cs ∧ cs.length = cur.size ∧ ws.length = cs.length ∧
      ∀ (i : Nat) c o v, cs[i]? = some c → ws[i]? = some o → cur[i]? = some v → v.oneCell' = true ∧ Rep w g.M c.1 v ∧ OwnOk w g base o v) ∧ BoxesOk w g base lm r l
  | _, _ => False

theorem packB_news {s : St} {w : World} {g : Gh} {base : Nat} (hlm : ∀ t, g.lm t = none ↔ s.lo.getD t none = none)
    (hlo : ∀ t b cells, g.lm t = some b → s.lo.getD t none = some cells → BoxOk w g base b cells) :
    ∀ {bs : List (Nat × TypeId × List Own)} {β : Type} {K : List AVal → List Nat → Option β} {r : β}, packB s bs K = some r →
    ∃ l m news, K l m = some r ∧ (∀ x ∈ news, NewOk w g base x) ∧ news.map (·.1) = bs.flatMap (fun b => b.2.2.flatMap wantId) ∧ olds news = m ∧ (∀ b ∈ bs, s.lo.getD b.1 none ≠ none) ∧
      ∀ g', g'.M = g.M → (∀ x ∈ news, OwnOk w g' base (.id x.1 x.2.1) x.2.2.1) → BoxesOk w g' base g.lm bs l
  | [], β, K, r, h => ⟨[], [], [], h, fun x hx => (by cases hx), rfl, rfl, fun b hb => (by cases hb), fun _ _ _ => trivial⟩
  | (t, ty, ws) :: bs, β, K, r, h => by
    simp only [packB] at h
    split at h
    · rename_i cs hcs
      split at h
      · rename_i m hm
        rw [Option.bind_eq_some_iff] at hcs
        obtain ⟨cells, hce, hds⟩ := hcs
        obtain ⟨b, hb⟩ : ∃ b, g.lm t = some b := by
          cases hx : g.lm t with
          | none => rw [(hlm t).1 hx] at hce; cases hce
          | some b => exact ⟨b, rfl⟩
        obtain ⟨hM, cur, T, hh, hsz, hr⟩ := hlo t b cells hb hce
        have hds' := datsOf_rep (w := w) (g := g) (base := base) hds
        subst hds'
        have hcsz : cs.length = cur.size := by simpa using hsz.symm
        have hcell : ∀ (i : Nat) (c : Dat × Own), cs[i]? = some c → ∃ v, cur[i]? = some v ∧ v.oneCell' = true ∧ RepE w g base (.dat c.1, c.2) v := by
          intro i c hc
          have hlt : i < cur.size := by rw [← hcsz]; exact (List.getElem?_eq_some_iff.1 hc).1
          have := hr i (.dat c.1, c.2) cur[i] (by simp [hc]) (Array.getElem?_eq_getElem hlt)
          exact ⟨_, Array.getElem?_eq_getElem hlt, this.1, this.2⟩
        obtain ⟨hl, n1, a1, a2, a3, a4⟩ := boxO_news (w := w) (g := g) (base := base) (f := fun i => cur.getD i undef) hm fun i c hc => by
          obtain ⟨v, hv, _, hr⟩ := hcell i c hc
          rw [Array.getD_eq_getD_getElem?, hv]
          exact hr.2
        obtain ⟨l, m2, n2, b1, b2, b3, b4, b5, b6⟩ := packB_news hlm hlo h
        refine ⟨_, _, n1 ++ n2, b1, fun x hx => ?_, by rw [List.map_append, a2, b3]; rfl, by rw [olds_append, a3, b4], fun x hx => ?_, fun g' hM' hg => ⟨?_, b6 g' hM' fun x hx => hg x (by simp [hx])⟩⟩
        · rcases List.mem_append.1 hx with h | h
          · exact a1 x h
          · exact b2 x h
        · rcases List.mem_cons.1 hx with rfl | hx
          · rw [hce]; simp
          · exact b5 x hx
        · refine ⟨b, cur, T, _, hb, hh, by rw [hM']; exact hM, rfl, by simpa using hcsz, by simp [hl], fun i c o v hc ho hv => ?_⟩
          simp only [List.getElem?_map, Option.map_eq_some_iff] at hc
          obtain ⟨c0, hc0, rfl⟩ := hc
          obtain ⟨v', hv', h1, h2⟩ := hcell i c0 hc0
          rw [hv] at hv'
          cases hv'
          refine ⟨h1, by rw [hM']; exact h2.1.dat_inv, ?_⟩
          have := a4 g' (fun x hx => hg x (by simp [hx])) i o ho
          rw [Array.getD_eq_getD_getElem?, hv] at this
          exact this
      · cases h
    · cases h

/-- what stands behind, under the new marks -/
def renG (g : Gh) (bs : List Nat) (news : List Neu) : Gh where
  M := g.M
  sm := g.sm
  gv := g.gv
  lm t := cond (bs.contains t) (g.lm t) none
  R b := match g.R b with
    | .own t => (match news.find? (fun x => x.2.2.2 == some t) with
      | some x => .own x.1
      | none => .imm)
    | x => x
  og t := match news.find? (fun x => x.1 == t) with
    | some x => x.2.2.1
    | none => undef

theorem nodupN_append {a b : List Nat} (h : nodupN (a ++ b) = true) : ∀ x ∈ a, x ∉ b := by
  induction a with
  | nil => intro x hx; cases hx
  | cons y a ih =>
    simp only [List.cons_append, nodupN, Bool.and_eq_true, Bool.not_eq_true', List.contains_eq_mem, decide_eq_false_iff_not] at h
    intro x hx
    rcases List.mem_cons.1 hx with rfl | hx
    · exact fun hb => h.1 (by simp [hb])
    · exact ih h.2 x hx

theorem find_new : ∀ {news : List Neu}, nodupN (news.map (·.1)) = true → ∀ x ∈ news, news.find? (fun y => y.1 == x.1) = some x
  | [], _, x, hx => by cases hx
  | y :: news, h, x, hx => by
    simp only [List.map_cons, nodupN, Bool.and_eq_true, Bool.not_eq_true', List.contains_eq_mem, decide_eq_false_iff_not] at h
    rcases List.mem_cons.1 hx with rfl | hx
    · simp
    · have : (y.1 == x.1) = false := by
        rw [beq_eq_false_iff_ne]
        intro e
        exact h.1 (by rw [e]; exact List.mem_map.2 ⟨x, hx, rfl⟩)
      rw [List.find?_cons, this]
      exact find_new h.2 x hx

theorem find_old : ∀ {news : List Neu}, nodupN (olds news) = true → ∀ x ∈ news, ∀ t, x.2.2.2 = some t → news.find? (fun y => y.2.2.2 == some t) = some x
  | [], _, x, hx, _, _ => by cases hx
  | y :: news, h, x, hx, t, ht => by
    rcases List.mem_cons.1 hx with rfl | hx
    · simp [ht]
    · have hol : olds (y :: news) = y.2.2.2.toList ++ olds news := by simp [olds]
      rw [hol] at h
      have hmem : t ∈ olds news := by
        unfold olds
        rw [List.mem_flatMap]
        exact ⟨x, hx, by rw [ht]; simp⟩
      have : (y.2.2.2 == some t) = false := by
        rw [beq_eq_false_iff_ne]
        intro e
        exact nodupN_append h t (by rw [e]; simp) hmem
      rw [List.find?_cons, this]
      refine find_old ?_ x hx t ht
      cases hy : y.2.2.2 with
      | none => rw [hy] at h; exact h
      | some u =>
        rw [hy] at h
        simp only [Option.toList_some, List.cons_append, List.nil_append, nodupN, Bool.and_eq_true] at h
        exact h.2

theorem ren_own {w : World} {g : Gh} {base : Nat} {bs : List Nat} {news : List Neu} (h1 : nodupN (news.map (·.1)) = true) (h2 : nodupN (olds news) = true) {x : Neu} (hx : x ∈ news) (hok : NewOk w g base x) :
    OwnOk w (renG g bs news) base (.id x.1 x.2.1) x.2.2.1 := by
  have hf := find_new h1 x hx
  refine ⟨by simp only [renG, hf], ?_⟩
  unfold NewOk at hok
  split at hok
  · obtain ⟨a, n, h, hs⟩ := hok
    exact .inl ⟨a, n, h, hs⟩
  · rename_i t ht
    have ho := find_old h2 x hx t ht
    obtain ⟨⟨_, h | ⟨b, n, cap, cur, T, e1, e2, e3, e4, e5, e6, e7, e8⟩⟩, hst⟩ := hok
    · obtain ⟨a, n, h, hs⟩ := h
      exact .inl ⟨a, n, h, fun hx => hs (hst hx)⟩
    · refine .inr ⟨b, n, cap, cur, T, e1, e2, e3, e4, e5, e6, ?_, e8⟩
      simp only [renG, e7, ho]

theorem unpackM_rep {P : Program} {w : World} {g : Gh} {base : Nat} {a : Act} : ∀ {ms : List (Nat × TypeId × Own)} {tm : List Ent} {l : List AVal} {β : Type} {K : List Ent → List AVal → Option β} {r : β}, unpackM P tm ms l K = some r →
    ∀ {rest : List AVal}, l.length = ms.length + rest.length → l.drop ms.length = rest → ModsOk w g base a ms l → (∀ (t : Nat) e v, tm[t]? = some e → a.tmps[t]? = some v → RepE w g base e v) →
    ∃ tm', K tm' rest = some r ∧ ∀ (t : Nat) e v, tm'[t]? = some e → a.tmps[t]? = some v → RepE w g base e v
  | [], tm, l, β, K, r, h, rest, _, hd, _, htm => by
    simp only [List.length_nil, List.drop_zero] at hd
    subst hd
    exact ⟨tm, h, htm⟩
  | (t, ty, o) :: ms, tm, [], β, K, r, h, rest, _, _, _, _ => by cases h
  | (t, ty, o) :: ms, tm, x :: l, β, K, r, h, rest, hl, hd, hm, htm => by
    simp only [unpackM] at h
    obtain ⟨e, h1, h2, _⟩ := decMod_any (γ := Ent) h
    refine unpackM_rep h2 (by simp at hl; omega) (by simpa using hd) hm.2 fun u e' v he hv => ?_
    rw [List.getElem?_set] at he
    split at he
    · rename_i htu
      subst htu
      split at he
      · cases he
        obtain ⟨hr, ho⟩ := hm.1 v hv
        exact decMod_rep (h1 some) hr ho
      · cases he
    · exact htm u e' v he hv

theorem markCells_get : ∀ {ds : List Dat} {ws : List Own} {i : Nat} {e : Ent}, (markCells ds ws)[i]? = some e → ∃ d o, ds[i]? = some d ∧ ws[i]? = some o ∧ e = (.dat d, o)
  | [], _, i, e, h => by simp [markCells] at h
  | _ :: _, [], i, e, h => by simp [markCells] at h
  | d :: ds, o :: ws, 0, e, h => by simp [markCells] at h; exact ⟨d, o, rfl, rfl, h.symm⟩
  | d :: ds, o :: ws, i + 1, e, h => by
    simp only [markCells, List.getElem?_cons_succ] at h ⊢
    exact markCells_get h

theorem markCells_length : ∀ {ds : List Dat} {ws : List Own}, ds.length = ws.length → (markCells ds ws).length = ds.length
  | [], [], _ => rfl
  | [], _ :: _, h => by simp at h
  | _ :: _, [], h => by simp at h
  | d :: ds, o :: ws, h => by simp only [markCells, List.length_cons]; rw [markCells_length (by simpa using h)]

theorem unpackB_rep {P : Program} {w : World} {g : Gh} {base : Nat} {lm : Nat → Option Nat} : ∀ {bs : List (Nat × TypeId × List Own)} {lo : List (Option (List Ent))} {l : List AVal} {β : Type} {K : List (Option (List Ent)) → Option β} {r : β},
    unpackB P lo bs l K = some r → BoxesOk w g base lm bs l → (∀ t cells, lo.getD t none = some cells → ∃ b, lm t = some b ∧ BoxOk w g base b cells) →
    ∃ lo', K lo' = some r ∧ ∀ t cells, lo'.getD t none = some cells → ∃ b, lm t = some b ∧ BoxOk w g base b cells
  | [], lo, [], β, K, r, h, _, hp => ⟨lo, h, hp⟩
  | [], lo, _ :: _, β, K, r, h, _, _ => by cases h
  | (t, ty, ws) :: bs, lo, [], β, K, r, h, _, _ => by cases h
  | (t, ty, ws) :: bs, lo, a :: l, β, K, r, h, hb, hp => by
    simp only [unpackB] at h
    obtain ⟨⟨b, cur, T, cs, h1, h2, h3, rfl, h5, h6, h7⟩, hb⟩ := hb
    split at h
    · rename_i ps hps
      simp only [asAgg] at h
      obtain ⟨h8, h9⟩ := cond_any h
      simp only [Bool.and_eq_true, beq_iff_eq] at h8
      obtain ⟨ds, h10, h11, h12⟩ := cellsAt_some h9
      refine unpackB_rep h10 hb fun u cells hc => ?_
      simp only [List.getD_eq_getElem?_getD, List.getElem?_set] at hc
      split at hc
      · rename_i htu
        subst htu
        split at hc
        · simp only [Option.getD_some, Option.some.injEq] at hc
          subst hc
          refine ⟨b, h1, h3, cur, T, h2, ?_, fun i e v he hv => ?_⟩
          · rw [markCells_length (by omega)]; omega
          · obtain ⟨d, o, hd, ho, rfl⟩ := markCells_get he
            have hi : i < ps.length := by rw [← h11]; exact (List.getElem?_eq_some_iff.1 hd).1
            have := h12 i hi
            rw [Nat.zero_add, hd, List.getElem?_map, Option.map_eq_some_iff] at this
            obtain ⟨c, hc, rfl⟩ := this
            obtain ⟨k1, k2, k3⟩ := h7 i c o v hc ho hv
            exact ⟨k1, .dat k2, k3⟩
        · simp at hc
      · exact hp u cells (by rw [List.getD_eq_getElem?_getD]; exact hc)
    · cases h

end
end Go.Aev

end
section
/- The code of a function. -/
namespace Go.Aev

section
variable {C : Cfg} {call : CallFn} {f : FuncId} {w0 : World} {M0 : Nat → Nat} {sm0 : List Nat} {X0 : Nat → Bool}

theorem wantId_mods : ∀ (ms : List (Nat × TypeId × Own)), ms.flatMap (fun m => wantId m.2.2) = ms.filterMap fun m => match m.2.2 with
    | .id t _ => some t
    | _ => none
  | [] => rfl
  | (t, ty, o) :: ms => by
    rw [List.flatMap_cons, List.filterMap_cons, wantId_mods ms]
    cases o <;> rfl

theorem wantId_owns : ∀ (ws : List Own), ws.flatMap wantId = ws.filterMap fun | .id t _ => some t | _ => none
  | [] => rfl
  | o :: ms => by
    rw [List.flatMap_cons, List.filterMap_cons, wantId_owns ms]
    cases o <;> rfl

theorem core_loc {x : AVal} {t off : Nat} (h : core x = .loc t off) : x = .loc t off := by
  cases x <;> simp_all [core]
theorem core_same {x y : AVal} (h : core x = core y) (ha : ∀ cs, y ≠ .agg cs) (ht : ∀ cs, y ≠ .tup cs) : x = y := by
  cases y <;> first | exact absurd rfl (ha _) | exact absurd rfl (ht _) | (cases x <;> simp_all [core])

theorem unpack_inv {f : FuncId} {i : Nat} {L : LoopCfg} {s s2 s1 : St} {v : Vars} {x : Code} {g : Gh} {a : Act} {w : World} (hk : KeepsOk C f i L s x) (hI : Inv C w0 M0 sm0 X0 g s2 a w) (hp : packV L s2 some = some v)
    (hu : unpackV C L s v some = some s1) (ht : s2.tm.length = s.tm.length) (hl : s2.lo.length = s.lo.length) (hkeep : ∀ k ∈ L.keeps, KeepRel (gt s k) (gt s2 k)) : Done C w0 M0 sm0 X0 s1 a w := by
  unfold packV at hp
  obtain ⟨h1, h2⟩ := cond_any hp
  simp only [List.all_eq_true] at h1
  have hsh := unpackV_shape hk hu
  obtain ⟨l, m, n1, h3, hll, a1, a2, a3, a4⟩ := packM_news hI.tsize hI.tm h2
  obtain ⟨l2, m2, n2, h4, b1, b2, b3, b4, b5⟩ := packB_news hI.lm (fun t b cells hb hc => (hI.lo t b cells hb hc).2.2) h3
  obtain ⟨h5, h6⟩ := cond_any h4
  cases h6
  -- what stands behind
  let g' := renG g (L.boxes.map (·.1)) (n1 ++ n2)
  have hM : g'.M = g.M := rfl
  have hn1 : nodupN ((n1 ++ n2).map (·.1)) = true := by
    have := hk.nd
    rw [List.map_append, a2, b2, wantId_mods]
    simp only [wantId_owns]
    exact this
  have hn2 : nodupN (olds (n1 ++ n2)) = true := by rw [olds_append, a3, b3]; exact h5
  have hown : ∀ x ∈ n1 ++ n2, OwnOk w g' w0.heap.size (.id x.1 x.2.1) x.2.2.1 := by
    intro x hx
    refine ren_own hn1 hn2 hx ?_
    rcases List.mem_append.1 hx with h | h
    · exact a1 x h
    · exact b1 x h
  have hmods := a4 g' rfl (fun x hx => hown x (by simp [hx])) l2
  have hboxes := b5 g' rfl (fun x hx => hown x (by simp [hx]))
  -- what stays
  have htm0 : ∀ (t : Nat) e v, (keepT L.keeps 0 s.tm)[t]? = some e → a.tmps[t]? = some v → RepE w g' w0.heap.size e v := by
    intro t e v he hv
    rw [keepT_get, Nat.zero_add, Option.map_eq_some_iff] at he
    obtain ⟨e0, he0, rfl⟩ := he
    cases hc : L.keeps.contains t with
    | false => exact ⟨.junk _, trivial⟩
    | true =>
      have hkk : t ∈ L.keeps := by simpa using hc
      have hgt : gt s t = e0 := by unfold gt; rw [List.getD_eq_getElem?_getD, he0]; rfl
      have hlt : t < s2.tm.length := by rw [ht]; exact (List.getElem?_eq_some_iff.1 he0).1
      have hgt2 : gt s2 t = s2.tm[t] := by simp [gt, List.getD_eq_getElem?_getD, hlt]
      have hr := hI.tm t _ v (List.getElem?_eq_getElem hlt) hv
      rw [← hgt2] at hr
      have hnj := h1 t hkk
      rw [show s2.tm.getD t (.undef, .none) = gt s2 t from rfl] at hnj
      have hcore : core (gt s2 t).1 = core e0.1 := by
        rcases hkeep t hkk with h | h
        · rw [h] at hnj; cases hnj
        · rw [← hgt]; exact h
      have hnt : ∀ vs, e0.1 ≠ .tup vs := fun vs e => hk.tup t hkk vs (by rw [hgt]; exact e)
      refine ⟨?_, trivial⟩
      show RepA w g' _ (stripA e0.1) v
      cases hx : e0.1 with
      | agg cs =>
        rw [hx] at hcore
        cases hy : (gt s2 t).1 <;> rw [hy] at hcore <;> simp only [core, reduceCtorEq, AVal.agg.injEq] at hcore
        rename_i cs2
        have h0 := hr.1
        rw [hy] at h0
        have := repA_sameAgg (g' := g') hM h0
        rw [hcore] at this
        exact this
      | tup vs => exact absurd hx (hnt vs)
      | loc u off =>
        rw [hx] at hcore
        have e2 := core_same hcore (fun _ => by simp) (fun _ => by simp)
        have h0 := hr.1
        rw [e2] at h0
        obtain ⟨b, hb, rfl⟩ := h0.loc_inv
        obtain ⟨bb, hbb, rfl⟩ := hk.loc t hkk u off (by rw [hgt]; exact hx)
        refine .loc ?_
        have : (L.boxes.map (·.1)).contains bb.1 = true := by simpa using ⟨bb.2.1, bb.2.2, hbb⟩
        show cond _ _ _ = _
        rw [this]
        exact hb
      | dat d =>
        rw [hx] at hcore
        have e2 := core_same hcore (fun _ => by simp) (fun _ => by simp)
        have h0 := hr.1
        rw [e2] at h0
        exact repA_same hM h0
      | imm cells =>
        rw [hx] at hcore
        have e2 := core_same hcore (fun _ => by simp) (fun _ => by simp)
        have h0 := hr.1
        rw [e2] at h0
        cases h0 with | b h0 => exact .b h0
      | ref i off =>
        rw [hx] at hcore
        have e2 := core_same hcore (fun _ => by simp) (fun _ => by simp)
        have h0 := hr.1
        rw [e2] at h0
        cases h0 with | b h0 => exact .b h0
      | clo fn fi ca =>
        rw [hx] at hcore
        have e2 := core_same hcore (fun _ => by simp) (fun _ => by simp)
        have h0 := hr.1
        rw [e2] at h0
        cases h0 with | b h0 => exact .b h0
      | undef =>
        rw [hx] at hcore
        have e2 := core_same hcore (fun _ => by simp) (fun _ => by simp)
        have h0 := hr.1
        rw [e2] at h0
        cases h0 with
        | b h0 => cases h0
        | undef => exact .undef
      | junk => exact .junk v
  unfold unpackV at hu
  obtain ⟨tm', hu2, htm'⟩ := unpackM_rep hu (rest := l2) (by simp [hll]) (by rw [← hll]; simp) hmods htm0
  obtain ⟨lo', hu3, hlo'⟩ := unpackB_rep (lm := g.lm) hu2 hboxes fun t cells hc => by
    simp only [List.getD_eq_getElem?_getD, List.getElem?_map] at hc
    cases hx : s.lo[t]? <;> rw [hx] at hc <;> cases hc
  cases hu3
  obtain ⟨lo2, _, hb2, hb3, hb4, hb5⟩ := unpackB_any (γ := St) hu2
  cases hb2
  have hin : ∀ t, g'.lm t = none → ∀ b ∈ L.boxes, b.1 ≠ t := by
    intro t ht b hb e
    subst e
    have hc : (L.boxes.map (·.1)).contains b.1 = true := by simpa using ⟨b.2.1, b.2.2, hb⟩
    have : g'.lm b.1 = g.lm b.1 := by show cond _ _ _ = _; rw [hc]; rfl
    rw [this, hI.lm] at ht
    exact b4 b hb ht
  have hltl : ∀ b ∈ L.boxes, b.1 < s.lo.length := by
    intro b hb
    rcases Nat.lt_or_ge b.1 s.lo.length with h | h
    · exact h
    · exact absurd (by simp [List.getD_eq_getElem?_getD, List.getElem?_eq_none (hl ▸ h : s2.lo.length ≤ b.1)]) (b4 b hb)
  refine ⟨g', hI.os, hI.tape, hI.output, hI.hsize, hI.frame, hI.fm, hI.smp, hI.defers, ?_, htm', ?_, ?_, hI.sglen, ?_, hI.bufs, hI.glob, hI.low⟩
  · rw [hI.tsize, ht]; exact hsh.1.tm.symm
  · intro t
    constructor
    · intro h
      have := hin t h
      show lo'.getD t none = none
      rw [List.getD_eq_getElem?_getD, hb4 t this]
      cases hx : s.lo[t]? <;> simp [hx]
    · intro h
      cases hc : (L.boxes.map (·.1)).contains t with
      | false => show cond _ _ _ = _; rw [hc]; rfl
      | true =>
        simp only [List.contains_eq_mem, List.mem_map, decide_eq_true_eq] at hc
        obtain ⟨b, hb, rfl⟩ := hc
        exact absurd h (hb5 b.1 (by simpa using hltl b hb) (.inr ⟨b, hb, rfl⟩))
  · intro t b cells hb hc
    obtain ⟨b', h7, h8⟩ := hlo' t cells hc
    have hgb : g.lm t = some b := by
      cases hcc : (L.boxes.map (·.1)).contains t with
      | false =>
        have : g'.lm t = none := by show cond _ _ _ = _; rw [hcc]; rfl
        rw [this] at hb; cases hb
      | true =>
        have : g'.lm t = g.lm t := by show cond _ _ _ = _; rw [hcc]; rfl
        rw [this] at hb; exact hb
    rw [hgb] at h7
    cases h7
    cases hx : s2.lo.getD t none with
    | none => rw [(hI.lm t).2 hx] at hgb; cases hgb
    | some cells0 =>
      obtain ⟨k1, k2, _⟩ := hI.lo t b cells0 hgb hx
      refine ⟨k1, ?_, h8⟩
      show (match g.R b with | .own t => _ | x => x) = _
      rw [k2]
  · intro i b bx hi hb
    obtain ⟨k1, k3, k2⟩ := hI.sg i b bx hi hb
    refine ⟨?_, fun u hu => ?_, k2⟩
    · show (match g.R b with | .own t => _ | x => x) = _
      rw [k1]
    · show (match g.R u with | .own t => _ | x => x) = _
      rw [k3 u hu]


def Ex.toExit : Ex → Exit
  | .normal => .normal
  | .exit i => .exit i
  | .ret => .ret

theorem onEx_some {β : Type} {e : Ex} {r : β} : ∀ {ids : List Nat} {F : Ex → Option β}, onEx e ids F = some r → F e = some r
  | [], F, h => by
    simp only [onEx] at h
    obtain ⟨h1, h2⟩ := cond_any h
    cases e <;> first | exact h2 | cases h1
  | i :: ids, F, h => by
    simp only [onEx] at h
    cases he : e.isExit i with
    | true =>
      rw [he, cond_true] at h
      cases e with
      | exit j =>
        have : j = i := by simpa [Ex.isExit] using he
        subst this
        exact h
      | normal => cases he
      | ret => cases he
    | false =>
      rw [he, cond_false] at h
      exact onEx_some h

/-- what a code does, for whoever comes here with a state of which s tells -/
def Holds (C : Cfg) (c : Code) (s : St) (ex : Ex) (s' : St) : Prop :=
  ∀ (w0 : World) (M0 : Nat → Nat) (sm0 : List Nat) (X0 : Nat → Bool) (Q : Exit → Act → World → Prop) (a : Act) (w : World), (∀ a' w', Done C w0 M0 sm0 X0 s' a' w' → Q ex.toExit a' w') → Done C w0 M0 sm0 X0 s a w → c.wp C.P Q a w

theorem iter_sound {lp : LoopFn} {L : LoopCfg} {s : St} {x : Code} {b : Nat} (hk : KeepsOk C f b L s x) (hs : StOk s)
    (ih : ∀ {β : Type} {s : St} {K : Ex → St → Option β} {r : β}, evC C call lp f x b β s K = some r → StOk s → ∃ ex s', K ex s' = some r ∧ Rel (writesOf C f x b) s s' ∧ StOk s' ∧ Holds C x s ex s') :
    ∀ (k : Nat) {v v' : Vars} {e : Ex}, evN.iterN (fun v => unpackV C L s v fun s => evC C call lp f x b (Ex × Vars) s fun e s => packV L s fun v => some (e, v)) k v = some (e, v') →
      ∀ (w0 : World) (M0 : Nat → Nat) (sm0 : List Nat) (X0 : Nat → Bool) (Q : Exit → Act → World → Prop),
      (∀ (a' : Act) (w' : World) (s2 : St), Done C w0 M0 sm0 X0 s2 a' w' → packV L s2 some = some v' → s2.tm.length = s.tm.length → s2.lo.length = s.lo.length → (∀ k ∈ L.keeps, KeepRel (gt s k) (gt s2 k)) → Q e.toExit a' w') →
      ∀ (a : Act) (w : World) (s2 : St), Done C w0 M0 sm0 X0 s2 a w → packV L s2 some = some v → s2.tm.length = s.tm.length → s2.lo.length = s.lo.length → (∀ k ∈ L.keeps, KeepRel (gt s k) (gt s2 k)) →
        Code.rounds C.P x Q k a w := by
  intro k
  induction k with
  | zero => intro v v' e h; cases h
  | succ k ihk =>
    intro v v' e h w0 M0 sm0 X0 Q hQ a w s2 ⟨g, hI⟩ hp ht hl hkp
    simp only [evN.iterN] at h
    rw [Option.bind_eq_some_iff] at h
    obtain ⟨⟨e1, v1⟩, h1, h2⟩ := h
    obtain ⟨s1, h3, h4⟩ := unpackV_any (γ := St) h1
    have hu := h3 some
    have hsh := unpackV_shape hk hu
    obtain ⟨ex, s3, h5, hrel, _, hholds⟩ := ih h4 (hsh.2.1 hs)
    obtain ⟨v3, h6, h7⟩ := packV_any (γ := Vars) h5
    cases h7
    have hp3 := h6 some
    have hkp3 : ∀ k ∈ L.keeps, KeepRel (gt s k) (gt s3 k) := fun k hkk => (hsh.1.keep k fun hm => by
      obtain ⟨m, hm, e⟩ := List.mem_map.1 hm
      exact hk.mn m hm (e ▸ hkk)).trans (hrel.keep k (hk.kw k hkk))
    have hD : Done C w0 M0 sm0 X0 s1 a w := unpack_inv hk hI hp hu ht hl hkp
    refine hholds w0 M0 sm0 X0 _ a w (fun a' w' hD' => ?_) hD
    have ht3 : s3.tm.length = s.tm.length := hrel.tm.trans hsh.1.tm
    have hl3 : s3.lo.length = s.lo.length := hrel.lo.trans hsh.1.lo
    cases e1 with
    | normal => exact ihk h2 w0 M0 sm0 X0 Q hQ a' w' s3 hD' hp3 ht3 hl3 hkp3
    | exit i => cases h2; exact hQ a' w' s3 hD' hp3 ht3 hl3 hkp3
    | ret => cases h2; exact hQ a' w' s3 hD' hp3 ht3 hl3 hkp3

theorem evC_sound (hC : CfgOk C) (hcall : CallOK C call) {lp : LoopFn} (hlp : ∀ F v r, lp F v = some r → ∃ n, evN.iterN F n v = some r) : ∀ (c : Code) {b : Nat} {β : Type} {s : St} {K : Ex → St → Option β} {r : β}, evC C call lp f c b β s K = some r → StOk s →
    ∃ ex s', K ex s' = some r ∧ Rel (writesOf C f c b) s s' ∧ StOk s' ∧ Holds C c s ex s' := by
  intro c
  induction c with
  | skip =>
    intro b β s K r h hs
    exact ⟨.normal, s, h, .refl _ _, hs, fun w0 M0 sm0 X0 Q a w hQ hD => wp_skip (hQ a w hD)⟩
  | label l =>
    intro b β s K r h hs
    exact ⟨.normal, s, h, .refl _ _, hs, fun w0 M0 sm0 X0 Q a w hQ hD => wp_label (hQ a w hD)⟩
  | exit id =>
    intro b β s K r h hs
    exact ⟨.exit id, s, h, .refl _ _, hs, fun w0 M0 sm0 X0 Q a w hQ hD => wp_exit (hQ a w hD)⟩
  | ret =>
    intro b β s K r h hs
    exact ⟨.ret, s, h, .refl _ _, hs, fun w0 M0 sm0 X0 Q a w hQ hD => wp_ret (hQ a w hD)⟩
  | region id ops draw =>
    intro b β s K r h hs
    simp only [evC] at h
    obtain ⟨s', h1, h2, h3, h4⟩ := evReg_sound hC hcall h hs
    exact ⟨.normal, s', h1, h2, h3, h4⟩
  | seq x y ihx ihy =>
    intro b β s K r h hs
    simp only [evC] at h
    obtain ⟨ex, s1, h1, h2, h3, h4⟩ := ihx h hs
    have m1 : ∀ k ∈ writesOf C f x b, k ∈ writesOf C f (.seq x y) b := fun k hk => by simp [writesOf, hk]
    cases ex with
    | normal =>
      obtain ⟨ex', s2, h5, h6, h7, h8⟩ := ihy h1 h3
      exact ⟨ex', s2, h5, (h2.mono m1).trans (h6.mono fun k hk => by simp [writesOf, hk]), h7, fun w0 M0 sm0 X0 Q a w hQ hD => wp_seq (h4 w0 M0 sm0 X0 _ a w (fun a' w' hD' => h8 w0 M0 sm0 X0 Q a' w' hQ hD') hD)⟩
    | exit i => exact ⟨.exit i, s1, h1, h2.mono m1, h3, fun w0 M0 sm0 X0 Q a w hQ hD => wp_seq (h4 w0 M0 sm0 X0 _ a w (fun a' w' hD' => hQ a' w' hD') hD)⟩
    | ret => exact ⟨.ret, s1, h1, h2.mono m1, h3, fun w0 M0 sm0 X0 Q a w hQ hD => wp_seq (h4 w0 M0 sm0 X0 _ a w (fun a' w' hD' => hQ a' w' hD') hD)⟩
  | cond c x y ihx ihy =>
    intro b β s K r h hs
    simp only [evC] at h
    split at h
    · rename_i t ht
      have hev : ∀ (w0 : World) (M0 : Nat → Nat) (sm0 : List Nat) (X0 : Nat → Bool) (a : Act) (w : World), Done C w0 M0 sm0 X0 s a w → a.eval c = .bool t := by
        intro w0 M0 sm0 X0 a w ⟨g, hI⟩
        have := (hI.ev c).1
        rw [ht] at this
        generalize a.eval c = u at this ⊢
        cases this.dat_inv
        rfl
      cases t with
      | true =>
        obtain ⟨ex, s1, h1, h2, h3, h4⟩ := ihx h hs
        exact ⟨ex, s1, h1, h2.mono fun k hk => by simp [writesOf, hk], h3, fun w0 M0 sm0 X0 Q a w hQ hD => wp_cond_true (hev w0 M0 sm0 X0 a w hD) (h4 w0 M0 sm0 X0 Q a w hQ hD)⟩
      | false =>
        obtain ⟨ex, s1, h1, h2, h3, h4⟩ := ihy h hs
        exact ⟨ex, s1, h1, h2.mono fun k hk => by simp [writesOf, hk], h3, fun w0 M0 sm0 X0 Q a w hQ hD => wp_cond_false (hev w0 M0 sm0 X0 a w hD) (h4 w0 M0 sm0 X0 Q a w hQ hD)⟩
    · cases h
  | scope x ih =>
    intro b β s K r h hs
    simp only [evC] at h
    obtain ⟨ex, s1, h1, h2, h3, h4⟩ := ih h hs
    refine ⟨ex, s1, h1, h2, h3, fun w0 M0 sm0 X0 Q a w hQ hD => wp_scope_straight (h4 w0 M0 sm0 X0 _ a w (fun a' w' hD' => ?_) hD)⟩
    have := hQ a' w' hD'
    cases ex <;> exact this
  | block id x ih =>
    intro b β s K r h hs
    simp only [evC] at h
    obtain ⟨ex, s1, h1, h2, h3, h4⟩ := ih h hs
    cases ex with
    | normal => exact ⟨.normal, s1, h1, h2, h3, fun w0 M0 sm0 X0 Q a w hQ hD => wp_block (h4 w0 M0 sm0 X0 _ a w (fun a' w' hD' => hQ a' w' hD') hD)⟩
    | ret => exact ⟨.ret, s1, h1, h2, h3, fun w0 M0 sm0 X0 Q a w hQ hD => wp_block (h4 w0 M0 sm0 X0 _ a w (fun a' w' hD' => hQ a' w' hD') hD)⟩
    | exit j =>
      simp only at h1
      cases hj : (j == id) with
      | true =>
        rw [hj, cond_true] at h1
        have : j = id := by simpa using hj
        refine ⟨.normal, s1, h1, h2, h3, fun w0 M0 sm0 X0 Q a w hQ hD => wp_block (h4 w0 M0 sm0 X0 _ a w (fun a' w' hD' => ?_) hD)⟩
        show (if j = id then _ else _)
        rw [if_pos this]
        exact hQ a' w' hD'
      | false =>
        rw [hj, cond_false] at h1
        have : j ≠ id := by simpa using hj
        refine ⟨.exit j, s1, h1, h2, h3, fun w0 M0 sm0 X0 Q a w hQ hD => wp_block (h4 w0 M0 sm0 X0 _ a w (fun a' w' hD' => ?_) hD)⟩
        show (if j = id then _ else _)
        rw [if_neg this]
        exact hQ a' w' hD'
  | loop x ih =>
    intro b β s K r h hs
    simp only [evC] at h
    obtain ⟨h1, h2⟩ := cond_any h
    have hk := keepsOk_some h1
    obtain ⟨v, h3, h4⟩ := packV_any (γ := Vars) h2
    rw [Option.bind_eq_some_iff] at h4
    obtain ⟨⟨e, v'⟩, h5, h6⟩ := h4
    obtain ⟨s1, h7, h8⟩ := unpackV_any (γ := St) h6
    have h9 := onEx_some h8
    have hu := h7 some
    have hsh := unpackV_shape hk hu
    obtain ⟨n, h5⟩ := hlp _ _ _ h5
    refine ⟨e, s1, h9, hsh.1.mono fun k hk => by simp only [writesOf, List.mem_append]; exact .inl hk, hsh.2.1 hs, fun w0 M0 sm0 X0 Q a w hQ hD => ?_⟩
    refine wp_loop_rounds n (iter_sound hk hs (fun h hs => ih h hs) n h5 w0 M0 sm0 X0 Q (fun a' w' s2 ⟨g, hI⟩ hp ht hl hkp => ?_) a w s hD (h3 some) rfl rfl fun k _ => .refl _)
    exact hQ a' w' (unpack_inv hk hI hp hu ht hl hkp)
  | _ => intro b β s K r h hs; simp only [evC, reduceCtorEq] at h

end
end Go.Aev

end
