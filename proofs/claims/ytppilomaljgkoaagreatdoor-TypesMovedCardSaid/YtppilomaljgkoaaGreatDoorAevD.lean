/- A deep evaluator for the code of the model, and its soundness: part 4. -/
import Derived.Test.YtppilomaljgkoaaGreatDoorAevC
import Derived.Below
import Derived.ChangeShapes
import Derived.ChangeArms
import Derived.Deep.Slices
import Derived.Lib.LaidTab
import Derived.FnData
import Derived.ReadAgain
import Derived.ChangeOld
import Derived.OpenShut
import Derived.WalkKit
import Derived.Deep.DeepHandedRow
import Derived.ProofKit
import Derived.IntWalk
import Derived.Shelf.Strings.BuilderK
import Derived.Shelf.Strings.OnBuilder
import Derived.Shelf.Strings.Prefix
import Derived.Shelf.Strings.Split
import Derived.Shelf.Strings.Replace
import Derived.Shelf.SlicesE.Clone
import Derived.Shelf.Spec.SlicesGrow
import Derived.Shelf.SlSortCmp.Whole1
import Derived.Shelf.SlSortCmp.NoneTotal
set_option linter.unusedVariables false
set_option linter.unusedSimpArgs false
section
/- What a piece of code asks of the calls that it makes. -/
namespace Go.Aev
abbrev Fact := FuncId × List AVal × Sig × (List Ent × Sig)
def Meets (call : CallFn) (T : List Fact) : Prop := ∀ t ∈ T, call t.1 t.2.1 t.2.2.1 = some t.2.2.2
theorem meets_nil (call : CallFn) : Meets call [] := fun t ht => by cases ht
theorem meets_app {call : CallFn} {T U : List Fact} : Meets call (T ++ U) ↔ Meets call T ∧ Meets call U :=
  ⟨fun h => ⟨fun t ht => h t (by simp [ht]), fun t ht => h t (by simp [ht])⟩, fun h t ht => by
    rcases List.mem_append.1 ht with ht | ht
    · exact h.1 t ht
    · exact h.2 t ht⟩
section
variable {β : Type} {r : β} {C : Cfg} {call : CallFn} {f : FuncId}
theorem callA_use {ns : Bool} {sg : Sig} {dst : Option Nat} {g : FuncId} {args : List AVal} {K : Dl → Option β} (h : callA C call ns sg dst g args K = some r) :
    ∃ T, Meets call T ∧ ∀ call', Meets call' T → ∀ (γ : Type) (G : Dl → Option γ), callA C call' ns sg dst g args G = callA C call ns sg dst g args G := by
  unfold callA at h
  split at h
  · rename_i fn dt hfn
    cases hh : (!handsAll args || fn.body.isNone || (C.ownArg g).isSome) with
    | true => rw [hh] at h; cases h
    | false =>
      rw [hh, cond_false] at h
      cases hpl : (plainL args && fn.resultTypes.toList.all (plainT C.P)) with
      | true =>
        rw [hpl, cond_true] at h
        simp only [Option.bind_eq_some_iff] at h
        obtain ⟨res, hc, h⟩ := h
        refine ⟨[(g, args.map stripA, [], res)], fun t ht => by rw [List.mem_singleton] at ht; subst ht; exact hc, fun call' hm γ G => ?_⟩
        have hc' : call' g (args.map stripA) [] = some res := hm _ List.mem_cons_self
        simp only [callA, hfn, hh, hpl, hc, hc', cond_true, cond_false]
      | false =>
        rw [hpl, cond_false] at h
        cases hns : (ns || (C.ownRes g).isSome) with
        | true => rw [hns] at h; cases h
        | false =>
          rw [hns, cond_false] at h
          simp only [Option.bind_eq_some_iff] at h
          obtain ⟨res, hc, h⟩ := h
          refine ⟨[(g, args.map stripA, sg, res)], fun t ht => by rw [List.mem_singleton] at ht; subst ht; exact hc, fun call' hm γ G => ?_⟩
          have hc' : call' g (args.map stripA) sg = some res := hm _ List.mem_cons_self
          simp only [callA, hfn, hh, hpl, hns, hc, hc', cond_false]
  · cases h
theorem ownCallA_use {g : FuncId} {z : Nat} {x : Ent} {rest : List AVal} {K : Dl → Option β} (h : ownCallA C call g z x rest K = some r) :
    ∃ T, Meets call T ∧ ∀ call', Meets call' T → ∀ (γ : Type) (G : Dl → Option γ), ownCallA C call' g z x rest G = ownCallA C call g z x rest G := by
  obtain ⟨fn, es, t, rs, sg', fs, u, h1, rfl, h3, h4, h5, h6, rfl, h8⟩ := ownCallA_some h
  refine ⟨[(g, .dat (.sl es) :: rest.map stripA, [], _)], fun t ht => by rw [List.mem_singleton] at ht; subst ht; exact h6, fun call' hm γ G => ?_⟩
  have hc' : call' g (.dat (.sl es) :: rest.map stripA) [] = some _ := hm _ List.mem_cons_self
  simp only [ownCallA, h1, h6, hc']
theorem evD_use {ns : Bool} {ev : Operand → Ent} {lo : List (Option (List Ent))} {sg : Sig} {o : Oper} {K : Dl → Option β} (h : evD C call f ns ev lo sg o K = some r) :
    ∃ T, Meets call T ∧ ∀ call', Meets call' T → ∀ (γ : Type) (G : Dl → Option γ), evD C call' f ns ev lo sg o G = evD C call f ns ev lo sg o G := by
  cases hop : o.op
  case call c =>
    unfold evD at h ⊢
    simp only [hop] at h ⊢
    split at h
    · exact ⟨[], meets_nil _, fun _ _ _ _ => rfl⟩
    · exact ⟨[], meets_nil _, fun _ _ _ _ => rfl⟩
    · exact ⟨[], meets_nil _, fun _ _ _ _ => rfl⟩
    · exact ⟨[], meets_nil _, fun _ _ _ _ => rfl⟩
    · rename_i fo hfo
      split at h
      · rename_i p hp
        exact ⟨[], meets_nil _, fun call' hm γ G => by simp only [hp]⟩
      rename_i hp
      split at h
      · rename_i p hp2
        obtain ⟨T, h3, h4⟩ := ownCallA_use h
        exact ⟨T, h3, fun call' hm γ G => h4 call' hm γ G⟩
      rename_i hp2
      split at h
      · rename_i g first caps hev
        obtain ⟨h1, h2⟩ := cond_any h
        obtain ⟨T, h3, h4⟩ := callA_use h2
        refine ⟨T, h3, fun call' hm γ G => ?_⟩
        rw [h1, cond_true]
        exact h4 call' hm γ G
      · cases h
    · cases h
  all_goals exact ⟨[], meets_nil _, fun _ _ _ _ => by unfold evD; simp only [hop]⟩
theorem evOp_use {ns : Bool} {s : St} {o : Oper} {K : St → Option β} (h : evOp C call f ns s o K = some r) :
    ∃ T, Meets call T ∧ ∀ call', Meets call' T → ∀ (γ : Type) (G : St → Option γ), evOp C call' f ns s o G = evOp C call f ns s o G := by
  obtain ⟨T, h1, h2⟩ := evD_use h
  exact ⟨T, h1, fun call' hm γ G => h2 call' hm γ _⟩
theorem evOper_use {ns : Bool} {ops : Array Oper} {s : St} {o : Oper} {K : St → Option β} (h : evOper C call f ns ops s o K = some r) :
    ∃ T, Meets call T ∧ ∀ call', Meets call' T → ∀ (γ : Type) (G : St → Option γ), evOper C call' f ns ops s o G = evOper C call f ns ops s o G := by
  unfold evOper at h
  split at h
  · rename_i hg
    obtain ⟨T, h1, h2⟩ := evOp_use h
    exact ⟨T, h1, fun call' hm γ G => by simp only [evOper, hg]; exact h2 call' hm γ G⟩
  · rename_i j want hg
    split at h
    · rename_i hj
      exact ⟨[], meets_nil _, fun call' hm γ G => by simp only [evOper, hg, hj]⟩
    · rename_i d hj
      split at h
      · rename_i b ow hd
        cases b with
        | true =>
          simp only [cond_true] at h
          cases want with
          | true =>
            simp only [cond_true] at h
            obtain ⟨T, h1, h2⟩ := evOp_use h
            exact ⟨T, h1, fun call' hm γ G => by simp only [evOper, hg, hj, hd, cond_true]; exact h2 call' hm γ G⟩
          | false => exact ⟨[], meets_nil _, fun call' hm γ G => by simp only [evOper, hg, hj, hd, cond_true, cond_false]⟩
        | false =>
          simp only [cond_false] at h
          cases want with
          | true => exact ⟨[], meets_nil _, fun call' hm γ G => by simp only [evOper, hg, hj, hd, cond_true, cond_false]⟩
          | false =>
            simp only [cond_false] at h
            obtain ⟨T, h1, h2⟩ := evOp_use h
            exact ⟨T, h1, fun call' hm γ G => by simp only [evOper, hg, hj, hd, cond_false]; exact h2 call' hm γ G⟩
      · rename_i hd
        exact ⟨[], meets_nil _, fun call' hm γ G => by simp only [evOper, hg, hj, hd]⟩
      · cases h
theorem evOps_use {ops : Array Oper} {ns : Nat → Bool} : ∀ {l : List Oper} {i : Nat} {s : St} {β : Type} {K : St → Option β} {r : β}, evOps C call f ops ns i l s K = some r →
    ∃ s' T, K s' = some r ∧ (∀ (γ : Type) (G : St → Option γ), evOps C call f ops ns i l s G = G s') ∧ Meets call T ∧
      ∀ call', Meets call' T → ∀ (γ : Type) (G : St → Option γ), evOps C call' f ops ns i l s G = G s'
  | [], i, s, β, K, r, h => ⟨s, [], h, fun _ _ => rfl, meets_nil _, fun _ _ _ _ => rfl⟩
  | o :: l, i, s, β, K, r, h => by
    simp only [evOps] at h
    obtain ⟨T, h1, h2⟩ := evOper_use h
    obtain ⟨s1, _, h3, h4⟩ := evOper_all h
    obtain ⟨s2, U, h5, h6, h7, h8⟩ := evOps_use h3
    refine ⟨s2, T ++ U, h5, fun γ G => ?_, meets_app.2 ⟨h1, h7⟩, fun call' hm γ G => ?_⟩
    · simp only [evOps]; rw [h4, h6]
    · have hm' := meets_app.1 hm
      simp only [evOps]
      rw [h2 call' hm'.1, h4, h8 call' hm'.2]
theorem evReg_use {id : Nat} {ops : Array Oper} {draw : Bool} {s : St} {K : St → Option β} (h : evReg C call f id ops draw s K = some r) :
    ∃ s' T, K s' = some r ∧ (∀ (γ : Type) (G : St → Option γ), evReg C call f id ops draw s G = G s') ∧ Meets call T ∧
      ∀ call', Meets call' T → ∀ (γ : Type) (G : St → Option γ), evReg C call' f id ops draw s G = G s' := by
  unfold evReg at h
  dsimp only at h
  cases hd : (draw && !drawOk C f ops (befores ops.toList)) with
  | true => rw [hd] at h; cases h
  | false =>
    rw [hd, cond_false] at h
    cases hj : C.join f id with
    | true =>
      rw [hj, cond_true] at h
      split at h
      · rename_i o hlast
        split at h
        · rename_i d hdst
          obtain ⟨hq, h⟩ := cond_any h
          rw [Option.bind_eq_some_iff] at h
          obtain ⟨e, h1, h2⟩ := h
          obtain ⟨s1, T, h3, h4, h5, h6⟩ := evOps_use h1
          cases h3
          obtain ⟨e', h7, h8⟩ := decVal_any (γ := Ent) h2
          have hall : ∀ (γ : Type) (G : Ent → Option γ), decVal C.P o.type ((s1.tm.getD d (.junk, .none)).1, .none) G = G e' := by
            intro γ G
            obtain ⟨e2, h9, h10⟩ := decVal_any (γ := γ) (h7 some)
            cases h10
            exact h9 G
          refine ⟨_, T, h8, fun γ G => ?_, h5, fun call' hm γ G => ?_⟩
          · unfold evReg
            dsimp only
            simp only [hd, hj, cond_false, cond_true, hlast, hdst, hq]
            rw [h4, Option.bind_some, hall]
          · unfold evReg
            dsimp only
            simp only [hd, hj, cond_false, cond_true, hlast, hdst, hq]
            rw [h6 call' hm, Option.bind_some, hall]
        · cases h
      · cases h
    | false =>
      rw [hj, cond_false] at h
      obtain ⟨s1, T, h3, h4, h5, h6⟩ := evOps_use h
      cases hy : (draw && !drawDyn ops (befores ops.toList) s1) with
      | true => rw [hy] at h3; cases h3
      | false =>
        rw [hy, cond_false] at h3
        refine ⟨s1, T, h3, fun γ G => ?_, h5, fun call' hm γ G => ?_⟩
        · unfold evReg
          dsimp only
          simp only [hd, hj, cond_false]
          rw [h4]
          simp only [hy, cond_false]
        · unfold evReg
          dsimp only
          simp only [hd, hj, cond_false]
          rw [h6 call' hm]
          simp only [hy, cond_false]
theorem packV_all {L : LoopCfg} {s : St} {K : Vars → Option β} (h : packV L s K = some r) : ∃ v, (∀ (γ : Type) (G : Vars → Option γ), packV L s G = G v) ∧ K v = some r := by
  obtain ⟨v, h1, h2⟩ := packV_any (γ := Vars) h
  refine ⟨v, fun γ G => ?_, h2⟩
  obtain ⟨v', h3, h4⟩ := packV_any (γ := γ) (h1 some)
  cases h4
  exact h3 G
theorem unpackV_all {L : LoopCfg} {s : St} {v : Vars} {K : St → Option β} (h : unpackV C L s v K = some r) : ∃ s1, (∀ (γ : Type) (G : St → Option γ), unpackV C L s v G = G s1) ∧ K s1 = some r := by
  obtain ⟨s1, h1, h2⟩ := unpackV_any (γ := St) h
  refine ⟨s1, fun γ G => ?_, h2⟩
  obtain ⟨v', h3, h4⟩ := unpackV_any (γ := γ) (h1 some)
  cases h4
  exact h3 G
theorem onEx_all {e : Ex} {s : St} : ∀ {ids : List Nat} {F : Ex → Option β}, onEx e ids F = some r → F e = some r ∧ ∀ (γ : Type) (G : Ex → Option γ), onEx e ids G = G e
  | [], F, h => by
    simp only [onEx] at h
    obtain ⟨h1, h2⟩ := cond_any h
    cases e <;> first | exact ⟨h2, fun γ G => rfl⟩ | cases h1
  | i :: ids, F, h => by
    simp only [onEx] at h
    cases he : e.isExit i with
    | true =>
      rw [he, cond_true] at h
      cases e with
      | exit j =>
        have : j = i := by simpa [Ex.isExit] using he
        subst this
        exact ⟨h, fun γ G => by simp only [onEx, he, cond_true]⟩
      | normal => cases he
      | ret => cases he
    | false =>
      rw [he, cond_false] at h
      obtain ⟨h1, h2⟩ := onEx_all (s := s) h
      exact ⟨h1, fun γ G => by simp only [onEx, he, cond_false]; exact h2 γ G⟩
theorem iter_use {F : CallFn → Vars → Option (Ex × Vars)} (hF : ∀ v q, F call v = some q → ∃ T, Meets call T ∧ ∀ call', Meets call' T → F call' v = some q) :
    ∀ (n : Nat) (v : Vars) (q : Ex × Vars), evN.iterN (F call) n v = some q → ∃ T, Meets call T ∧ ∀ call', Meets call' T → evN.iterN (F call') n v = some q
  | 0, v, q, h => by cases h
  | n + 1, v, q, h => by
    rw [evN.iterN, Option.bind_eq_some_iff] at h
    obtain ⟨⟨e, v1⟩, h1, h2⟩ := h
    obtain ⟨T, h3, h4⟩ := hF v _ h1
    cases e with
    | normal =>
      obtain ⟨U, h5, h6⟩ := iter_use hF n v1 q h2
      refine ⟨T ++ U, meets_app.2 ⟨h3, h5⟩, fun call' hm => ?_⟩
      rw [evN.iterN, h4 call' (meets_app.1 hm).1]
      exact h6 call' (meets_app.1 hm).2
    | exit i => exact ⟨T, h3, fun call' hm => by rw [evN.iterN, h4 call' hm]; exact h2⟩
    | ret => exact ⟨T, h3, fun call' hm => by rw [evN.iterN, h4 call' hm]; exact h2⟩
theorem evC_use : ∀ (c : Code) {b : Nat} {β : Type} {s : St} {K : Ex → St → Option β} {r : β}, evC C call iterL f c b β s K = some r →
    ∃ ex s' T, K ex s' = some r ∧ (∀ (γ : Type) (G : Ex → St → Option γ), evC C call iterL f c b γ s G = G ex s') ∧ Meets call T ∧
      ∀ call', Meets call' T → ∀ (γ : Type) (G : Ex → St → Option γ), evC C call' iterL f c b γ s G = G ex s' := by
  intro c
  induction c with
  | skip => intro b β s K r h; exact ⟨.normal, s, [], h, fun _ _ => rfl, meets_nil _, fun _ _ _ _ => rfl⟩
  | label l => intro b β s K r h; exact ⟨.normal, s, [], h, fun _ _ => rfl, meets_nil _, fun _ _ _ _ => rfl⟩
  | exit id => intro b β s K r h; exact ⟨.exit id, s, [], h, fun _ _ => rfl, meets_nil _, fun _ _ _ _ => rfl⟩
  | ret => intro b β s K r h; exact ⟨.ret, s, [], h, fun _ _ => rfl, meets_nil _, fun _ _ _ _ => rfl⟩
  | region id ops draw =>
    intro b β s K r h
    simp only [evC] at h
    obtain ⟨s', T, h1, h2, h3, h4⟩ := evReg_use h
    exact ⟨.normal, s', T, h1, fun γ G => h2 γ _, h3, fun call' hm γ G => h4 call' hm γ _⟩
  | seq x y ihx ihy =>
    intro b β s K r h
    simp only [evC] at h
    obtain ⟨ex, s1, T, h1, h2, h3, h4⟩ := ihx h
    cases ex with
    | normal =>
      obtain ⟨ex', s2, U, h5, h6, h7, h8⟩ := ihy h1
      refine ⟨ex', s2, T ++ U, h5, fun γ G => ?_, meets_app.2 ⟨h3, h7⟩, fun call' hm γ G => ?_⟩
      · simp only [evC]; rw [h2]; exact h6 γ G
      · simp only [evC]; rw [h4 call' (meets_app.1 hm).1]; exact h8 call' (meets_app.1 hm).2 γ G
    | exit i => exact ⟨.exit i, s1, T, h1, fun γ G => by simp only [evC]; rw [h2], h3, fun call' hm γ G => by simp only [evC]; rw [h4 call' hm]⟩
    | ret => exact ⟨.ret, s1, T, h1, fun γ G => by simp only [evC]; rw [h2], h3, fun call' hm γ G => by simp only [evC]; rw [h4 call' hm]⟩
  | cond c x y ihx ihy =>
    intro b β s K r h
    simp only [evC] at h
    split at h
    · rename_i t ht
      cases t with
      | true =>
        obtain ⟨ex, s1, T, h1, h2, h3, h4⟩ := ihx h
        exact ⟨ex, s1, T, h1, fun γ G => by simp only [evC, ht, cond_true]; exact h2 γ G, h3, fun call' hm γ G => by simp only [evC, ht, cond_true]; exact h4 call' hm γ G⟩
      | false =>
        obtain ⟨ex, s1, T, h1, h2, h3, h4⟩ := ihy h
        exact ⟨ex, s1, T, h1, fun γ G => by simp only [evC, ht, cond_false]; exact h2 γ G, h3, fun call' hm γ G => by simp only [evC, ht, cond_false]; exact h4 call' hm γ G⟩
    · cases h
  | scope x ih =>
    intro b β s K r h
    simp only [evC] at h
    obtain ⟨ex, s1, T, h1, h2, h3, h4⟩ := ih h
    exact ⟨ex, s1, T, h1, fun γ G => by simp only [evC]; exact h2 γ G, h3, fun call' hm γ G => by simp only [evC]; exact h4 call' hm γ G⟩
  | block id x ih =>
    intro b β s K r h
    simp only [evC] at h
    obtain ⟨ex, s1, T, h1, h2, h3, h4⟩ := ih h
    cases ex with
    | normal => exact ⟨.normal, s1, T, h1, fun γ G => by simp only [evC]; rw [h2], h3, fun call' hm γ G => by simp only [evC]; rw [h4 call' hm]⟩
    | ret => exact ⟨.ret, s1, T, h1, fun γ G => by simp only [evC]; rw [h2], h3, fun call' hm γ G => by simp only [evC]; rw [h4 call' hm]⟩
    | exit j =>
      simp only at h1
      cases hj : (j == id) with
      | true =>
        rw [hj, cond_true] at h1
        exact ⟨.normal, s1, T, h1, fun γ G => by simp only [evC]; rw [h2]; simp only [hj, cond_true], h3, fun call' hm γ G => by simp only [evC]; rw [h4 call' hm]; simp only [hj, cond_true]⟩
      | false =>
        rw [hj, cond_false] at h1
        exact ⟨.exit j, s1, T, h1, fun γ G => by simp only [evC]; rw [h2]; simp only [hj, cond_false], h3, fun call' hm γ G => by simp only [evC]; rw [h4 call' hm]; simp only [hj, cond_false]⟩
  | loop x ih =>
    intro b β s K r h
    simp only [evC] at h
    obtain ⟨h1, h2⟩ := cond_any h
    obtain ⟨v, h3, h4⟩ := packV_all h2
    rw [Option.bind_eq_some_iff] at h4
    obtain ⟨⟨e, v'⟩, h5, h6⟩ := h4
    obtain ⟨s1, h7, h8⟩ := unpackV_all h6
    obtain ⟨h9, h10⟩ := onEx_all (s := s1) h8
    obtain ⟨n, hn⟩ := iterL_some _ _ _ h5
    obtain ⟨T, h11, h12⟩ := iter_use (call := call) (F := fun call v => unpackV C (C.loop f b) s v fun s => evC C call iterL f x b (Ex × Vars) s fun e s => packV (C.loop f b) s fun v => some (e, v)) (fun v q hq => by
      obtain ⟨s2, k1, k2⟩ := unpackV_all hq
      obtain ⟨e2, s3, T, k3, k4, k5, k6⟩ := ih k2
      refine ⟨T, k5, fun call' hm => ?_⟩
      rw [k1, k6 call' hm]
      exact k3) n v _ hn
    refine ⟨e, s1, T, h9, fun γ G => ?_, h11, fun call' hm γ G => ?_⟩
    · simp only [evC, h1, cond_true]
      rw [h3, h5, Option.bind_some, h7, h10]
    · simp only [evC, h1, cond_true]
      rw [h3, iterL_of (h12 call' hm), Option.bind_some, h7, h10]
  | _ => intro b β s K r h; simp only [evC, reduceCtorEq] at h
theorem evF_use {args : List AVal} {sg : Sig} {q : List Ent × Sig} (h : evF C call iterL f args sg = some q) : ∃ T, Meets call T ∧ ∀ call', Meets call' T → evF C call' iterL f args sg = some q := by
  unfold evF at h
  split at h
  · cases h
  · rename_i fn hfn
    split at h
    · cases h
    · rename_i body hbody
      obtain ⟨hh, h⟩ := cond_any h
      obtain ⟨ex, s', T, h1, _, h3, h4⟩ := evC_use body h
      refine ⟨T, h3, fun call' hm => ?_⟩
      unfold evF
      simp only [hfn, hbody, hh, cond_true]
      rw [h4 call' hm]
      exact h1
theorem callN_mono : ∀ (n : Nat) {f : FuncId} {args : List AVal} {sg : Sig} {q : List Ent × Sig}, callN C n f args sg = some q → callN C (n + 1) f args sg = some q
  | 0, f, args, sg, q, h => by cases h
  | n + 1, f, args, sg, q, h => by
    rw [callN] at h ⊢
    split at h
    · exact h
    · obtain ⟨T, h1, h2⟩ := evF_use h
      exact h2 _ fun t ht => callN_mono n (h1 t ht)
theorem callL_meets {T : List Fact} (h : Meets (callL C) T) : ∃ n, Meets (callN C n) T := by
  induction T with
  | nil => exact ⟨0, meets_nil _⟩
  | cons t T ih =>
    obtain ⟨n, hn⟩ := ih fun u hu => h u (by simp [hu])
    obtain ⟨m, hm⟩ := lim_some (h t (by simp))
    refine ⟨m + n, fun u hu => ?_⟩
    rcases List.mem_cons.1 hu with rfl | hu
    · exact mono_le (F := fun n => callN C n u.1 u.2.1 u.2.2.1) (fun n r h => callN_mono n h) hm n
    · have := mono_le (F := fun n => callN C n u.1 u.2.1 u.2.2.1) (fun n r h => callN_mono n h) (hn u hu) m
      rw [Nat.add_comm] at this
      exact this
theorem callL_of {args : List AVal} {sg : Sig} {q : List Ent × Sig} (hp : C.prim f = none) (h : evF C (callL C) iterL f args sg = some q) : callL C f args sg = some q := by
  obtain ⟨T, h1, h2⟩ := evF_use h
  obtain ⟨n, hn⟩ := callL_meets h1
  refine lim_of (n := n + 1) (fun n r h => callN_mono n h) ?_
  rw [callN, hp]
  exact h2 _ hn
theorem callL_prim {F : List AVal → Sig → Option (List Ent × Sig)} {args : List AVal} {sg : Sig} {q : List Ent × Sig} (hp : C.prim f = some F) (h : F args sg = some q) : callL C f args sg = some q := by
  refine lim_of (n := 1) (fun n r h => callN_mono n h) ?_
  rw [callN, hp]
  exact h
end
end Go.Aev

end
section
/- A table of what calls give. -/
namespace Go.Aev
def add (t : CallFn) (f : FuncId) (S : List AVal → Sig → Option (List Ent × Sig)) : CallFn := fun g a s => cond (g == f) (S a s) (t g a s)
end Go.Aev

end
section
/- Functions of the library whose contracts are known. -/
namespace Go.Aev
open Go.RowKit
theorem after_below {C : Cfg} {w w' : World} {M : Nat → Nat} (hd : C.dr = false) (h : Below w.heap.size w w') : After C w w' M M [] [] :=
  ⟨h.os, h.tape, ⟨h.output, fun e => by rw [hd] at e; cases e⟩, h.size, fun b hb _ => h.block b hb, fun _ _ => rfl, ⟨[], by simp, fun b hb => by cases hb⟩, fun i b k h => by simp at h⟩
theorem callAt_one {C : Cfg} (hd : C.dr = false) {f : FuncId} {F : List AVal → Sig → Option (List Ent × Sig)}
    (h0 : ∀ args sg rs sg', F args sg = some (rs, sg') → sg = []) (h : ∀ args sg rs sg', F args sg = some (rs, sg') → ∀ (w : World) (M : Nat → Nat) (vs : Array Value), args.length = vs.size → (∀ (i : Nat) x v, args[i]? = some x → vs[i]? = some v → RepB w M [] x v) → GlobOk C w M →
      sg' = [] ∧ ∃ d, rs = [(.dat d, .none)] ∧ Calls C.P f vs w fun e w' => ∃ v, e = .returned v ∧ Below w.heap.size w w' ∧ Rep w' M d v) : CallAt C f F := by
  intro args sg rs sg' hF w M sm vs hl hr hs hg
  have hsl : sg = [] := h0 args sg rs sg' hF
  subst hsl
  have hsm : sm = [] := List.eq_nil_of_length_eq_zero hs.1.symm
  subst hsm
  obtain ⟨rfl, d, rfl, hc⟩ := h args [] rs sg' hF w M vs hl hr hg
  refine hc.mono fun e w' ⟨v, he, hb, hd'⟩ => ⟨v, M, [], he, after_below hd hb, sigOk_nil C w' M, [v], rfl, rfl, fun i e u he hu => ?_, fun i j e e' t t' n n' he he' h h' => ?_⟩
  · cases i with
    | zero =>
      simp only [List.getElem?_cons_zero, Option.some.injEq] at he hu
      subst he hu
      exact ⟨.dat hd', trivial⟩
    | succ i => simp at he
  · cases i with
    | zero =>
      simp only [List.getElem?_cons_zero, Option.some.injEq] at he
      subst he
      cases h
    | succ i => simp at he
end Go.Aev

end
section
/- What a row's condition reads, as the evaluator's data. -/
namespace Go.Aev
section
variable {H : Type} {enc : TypeId × Value → H} {P : Program} {w : World} {base : Nat} {spare : Nat → Bool} {held : Bool} {M : Nat → Nat}
def datFs (P : Program) (rec : TypeId → DataW H → Option (List Dat)) : List Field → Nat → List (DataW H) → Option (List Dat)
  | [], _, [] => some []
  | f :: fs, off, d :: ds => cond (f.offset == off) ((rec f.type d).bind fun a => cond (a.length == P.cellsOf f.type) ((datFs P rec fs (off + P.cellsOf f.type) ds).map fun r => a ++ r) none) none
  | _, _, _ => none
def datW (P : Program) : Nat → TypeId → DataW H → Option (List Dat)
  | 0, _, _ => none
  | n + 1, t, d =>
    match P.underlying t, d with
    | some .bool, .lit (.bool b) => some [.bool b]
    | some (.int k), .lit (.int k' x) => cond (k == k') (some [.int k x]) none
    | some .string, .lit (.string l) => some [.str ⟨l.toArray⟩]
    | some (.slice _), .nil => some [.sl []]
    | some (.struct fs), .agg ds => (datFs P (datW P n) fs.toList 0 ds).bind fun r => cond (r.length == P.cellsOf t) (some r) none
    | some (.array _ e), .agg ds => (ds.mapM (datW P n e)).bind fun r => cond ((r.all fun x => x.length == P.cellsOf e) && (P.cellsOf t == ds.length * P.cellsOf e)) (some r.flatten) none
    | _, _ => none
def RepL (w : World) (M : Nat → Nat) (ds : List Dat) (cs : List Value) : Prop := ds.length = cs.length ∧ ∀ (j : Nat) x v, ds[j]? = some x → cs[j]? = some v → Rep w M x v
theorem RepL.append {a b : List Dat} {c d : List Value} (h : RepL w M a c) (k : RepL w M b d) : RepL w M (a ++ b) (c ++ d) := by
  refine ⟨by simp [h.1, k.1], fun j x v hx hv => ?_⟩
  rw [List.getElem?_append] at hx hv
  rw [← h.1] at hv
  split at hx
  · rename_i hlt
    rw [if_pos hlt] at hv
    exact h.2 j x v hx hv
  · rename_i hlt
    rw [if_neg hlt] at hv
    exact k.2 _ x v hx hv
theorem repL_one {d : Dat} {v : Value} (h : Rep w M d v) : RepL w M [d] [v] := by
  refine ⟨rfl, fun j x u hx hu => ?_⟩
  cases j with
  | zero =>
    simp only [List.getElem?_cons_zero, Option.some.injEq] at hx hu
    subst hx hu
    exact h
  | succ j => simp at hx
theorem take_drop_split (l : List Value) (a b : Nat) : (l.drop a) = (l.drop a).take b ++ l.drop (a + b) := by
  rw [← List.drop_drop, List.take_append_drop]
def sizes (w : World) (b : Nat) : Nat :=
  match w.heap[b]? with
  | some (.cells c _ _) => c.size
  | _ => 0
theorem below_sizes {a : Addr} {v : Value} (h : w.cell? a = some v) : a.off < sizes w a.block := by
  unfold World.cell? at h
  unfold sizes
  split at h
  · rename_i c t fr hb
    rw [hb]
    split at h
    · cases h
    · exact (Array.getElem?_eq_some_iff.1 h).1
  · cases h
end
end Go.Aev

end
section
/- What a row says behind a call that turned nothing of what was there. -/
namespace Go.Aev
open Go.ChangeShapes Go.WideShapes Go.RowKit
theorem post_of_below {H : Type} {enc : TypeId × Value → H} {P : Program} {f : Func} {s : ChangeSpec} {apart fresh handsOn again : Bool} {W W' : World} {args : Array Value} {v : Value} {ds gs : List (DataW H)} {before pa pv : List MemPlace}
    (hW : DataW.Whole enc P f.params.toList s.vars apart W args.toList ds gs before) (hB : Below W.heap.size W W')
    (hres : ∀ (b : Nat) (sp : Nat → Bool) (hd : Bool), DataW.TrodAll enc P W' b sp hd f.resultTypes.toList (v.resultList f.resultTypes.size) (s.fn H (ds ++ gs)).results [])
    (hargs : ∀ sp : Nat → Bool, (∀ p ∈ before, sp p.block = true) → DataW.TrodAll enc P W' 0 sp true f.params.toList args.toList (s.fn H (ds ++ gs)).args pa)
    (hvars : ∀ sp : Nat → Bool, (∀ p ∈ before, sp p.block = true) → DataW.TrodVars enc P W' sp s.vars (s.fn H (ds ++ gs)).vars pv)
    (hps : before = pa ++ pv)
    (hok : ∀ (j : Nat) (t : TypeId) (r : Value), f.resultTypes[j]? = some t → (v.resultList f.resultTypes.size)[j]? = some r → Value.okWide P W' .any 0 t r) :
    s.post enc P f apart fresh handsOn again W args v W' := by
  have hold : ∀ p ∈ before, (fun b => decide (b < W.heap.size)) p.block = true := fun p hp => by simpa using hW.lt p hp
  have hlt := fun p hp => hW.lt p hp
  refine ⟨ds, gs, before, [], pa, pv, hW, hres _ _ _, hargs _ hold, hvars _ hold, World.keptBut_mono (fun p hp => ⟨hp, ?_⟩) (hB.frame (· ∈ before)), fun _ => ?_⟩
  · rw [hps, List.mem_append] at hp
    exact Or.inr hp
  · obtain ⟨_, _, _, _, _, hz, hn⟩ := hW
    refine ⟨hok, _, _, ([] ++ pa) ++ pv, ⟨[] ++ pa, pv, trodAll_append (hargs _ (fun _ _ => rfl)) (hres _ _ _), hvars _ (fun _ _ => rfl), rfl, ?_, ?_⟩, ?_⟩
    · intro b off hp
      have hp' : MemPlace.cell b off ∈ before := by rw [hps]; simpa using hp
      have hb := hlt _ hp'
      have e : W'.frozen? ⟨b, off, none⟩ = W.frozen? ⟨b, off, none⟩ := by
        unfold World.frozen?
        rw [show W'.heap[b]? = W.heap[b]? from hB.block b hb]
      rw [e]
      exact hz b off hp'
    · intro ha
      have := hn ha
      rw [hps] at this
      simpa using this
    · intro p hp _
      rw [hps]
      simpa using hp
theorem below_after {W W' : World} {M M' : Nat → Nat} {sm' : List Nat} {C : Cfg} (h : After C W W' M M' [] sm') : Below W.heap.size W W' := ⟨h.os, h.tape, h.output.1, h.size, fun k hk => h.block k hk touch_nil⟩
theorem calls_bool {C : Cfg} (hC : CfgOk C) (hp : ∀ f F, C.prim f = some F → CallAt C f F) {f : FuncId} (ho : C.ownArg f = none) {args : List AVal} {b : Bool} (h : callL C f args [] = some ([(.dat (.bool b), .none)], [])) {W : World} {vs : Array Value} (hl : args.length = vs.size)
    (hr : ∀ (i : Nat) x v, args[i]? = some x → vs[i]? = some v → RepB W (sizes W) [] x v) (hg : GlobOk C W (sizes W)) : Calls C.P f vs W fun e W' => e = .returned (.bool b) ∧ Below W.heap.size W W' := by
  refine ((callL_ok hC hp).plain f ho args [] _ [] h W (sizes W) [] vs hl hr (sigOk_nil _ _ _) hg).mono fun e W' ⟨v, M', sm', he, hA, _, us, hv, hlen, hrr, _⟩ => ?_
  match us, hlen, hv, hrr with
  | [u], _, hv, hrr =>
    have := (hrr 0 _ u rfl rfl).1
    cases this with
    | dat hd =>
      cases hd
      exact ⟨by rw [he, show v = _ from hv], below_after hA⟩
end Go.Aev

end
section
/- The evaluator once more, with tables of calls and of loops whose answers are handed on. -/
namespace Go.Aev
abbrev CallK := FuncId → List AVal → Sig → (γ : Type) → (List Ent × Sig → Option γ) → Option γ
abbrev LoopK := FuncId → Nat → List AVal → Vars → (γ : Type) → (Ex × Vars → Option γ) → Option γ
def bs (l : List Nat) : ByteArray := ⟨(l.map UInt8.ofNat).toArray⟩
def loopsOf : Nat → Code → List (Nat × Code)
  | b, .loop x => (b, x) :: loopsOf b x
  | b, .seq x y => loopsOf b x ++ loopsOf b y
  | b, .cond _ x y => loopsOf b x ++ loopsOf b y
  | _, .block i x => loopsOf i x
  | b, .scope x => loopsOf b x
  | _, _ => []
def findB (b : Nat) : List (Nat × Code) → Code
  | [] => .skip
  | p :: l => cond (p.1 == b) p.2 (findB b l)
def bodyOf (P : Program) (f : FuncId) (b : Nat) : Code :=
  match (P.funcs[f]?).bind (·.body) with
  | some x => findB b (loopsOf 0 x)
  | none => .skip
section
variable {β : Type}
def callAK (C : Cfg) (tk : CallK) (ns : Bool) (sg : Sig) (dst : Option Nat) (g : FuncId) (args : List AVal) (K : Dl → Option β) : Option β :=
  match C.P.funcs[g]?, dst with
  | some fn, some d =>
    cond (!handsAll args || fn.body.isNone || (C.ownArg g).isSome) none <|
    cond (plainL args && fn.resultTypes.toList.all (plainT C.P))
      (tk g (args.map stripA) [] β fun r => decVals C.P fn.resultTypes.toList r.1 fun rs =>
        match C.ownRes g with
        | some (i, n) => cond (hasMark r.1 i n) (K (.clr (8 * d) (joinE (markAt i (.id (8 * d) n) rs)))) none
        | none => K (.val (joinE rs)))
      (cond (ns || (C.ownRes g).isSome) none (tk g (args.map stripA) sg β fun r => decVals C.P fn.resultTypes.toList r.1 fun rs => K (.sig r.2 (joinE rs))))
  | _, _ => none
def ownCallAK (C : Cfg) (tk : CallK) (g : FuncId) (z : Nat) (x : Ent) (rest : List AVal) (K : Dl → Option β) : Option β :=
  match C.P.funcs[g]?, x with
  | some fn, (.dat (.sl es), .id t n) =>
    cond (handsAll rest && plainL rest && fn.body.isSome && n == z && !strictO t) (tk g (.dat (.sl es) :: rest.map stripA) [] β fun r => ownRes1 z r.1 fun fs => K (.clr t (.dat (.sl fs), .id t z))) none
  | _, _ => none
def evDK (C : Cfg) (tk : CallK) (f : FuncId) (ns : Bool) (ev : Operand → Ent) (lo : List (Option (List Ent))) (sg : Sig) (o : Oper) (K : Dl → Option β) : Option β :=
  match o.op with
  | .call c =>
    (match c.callee with
     | .value fo => (match nilGrowOf C fo c.args.toList with
       | some p => growA o.dst p.1 (ev p.2).1 K
       | none => match ownArgOf C fo c.args.toList with
       | some p => ownCallAK C tk p.1.1 p.1.2 (ev p.2.1) (p.2.2.map fun x => (ev x).1) K
       | none => match (ev fo).1 with
       | .clo (.func g) first caps => cond (isFuncO fo || (C.ownRes g).isNone) (callAK C tk ns sg o.dst g (first ++ c.args.toList.map (fun x => (ev x).1) ++ caps) K) none
       | _ => none)
     | _ => evD C (fun _ _ _ => none) f ns ev lo sg o K)
  | _ => evD C (fun _ _ _ => none) f ns ev lo sg o K
def evOpK (C : Cfg) (tk : CallK) (f : FuncId) (ns : Bool) (s : St) (o : Oper) (K : St → Option β) : Option β :=
  evDK C tk f ns (s.ev C) s.lo s.sg o fun d => K (d.apply s o.dst)
def evOperK (C : Cfg) (tk : CallK) (f : FuncId) (ns : Bool) (ops : Array Oper) (s : St) (o : Oper) (K : St → Option β) : Option β :=
  match o.guard with
  | none => evOpK C tk f ns s o K
  | some (j, want) =>
    match (ops[j]?).bind (·.dst) with
    | none => K (s.put o.dst (.undef, .none))
    | some d =>
      match s.tm[d]? with
      | some (.dat (.bool b), w) =>
        cond b
          (let s := s.put (some d) (.dat (.bool true), w)
           cond want (evOpK C tk f ns s o K) (K (s.put o.dst (.undef, .none))))
          (let s := s.put (some d) (.dat (.bool false), w)
           cond want (K (s.put o.dst (.undef, .none))) (evOpK C tk f ns s o K))
      | some (.undef, _) => K (s.put o.dst (.undef, .none))
      | _ => none
def evOpsK (C : Cfg) (tk : CallK) (f : FuncId) (ops : Array Oper) (ns : Nat → Bool) : Nat → List Oper → St → (St → Option β) → Option β
  | _, [], s, K => K s
  | i, o :: r, s, K => evOperK C tk f (ns i) ops s o fun s => evOpsK C tk f ops ns (i + 1) r s K
def evRegK (C : Cfg) (tk : CallK) (f : FuncId) (id : Nat) (ops : Array Oper) (draw : Bool) (s : St) (K : St → Option β) : Option β :=
  let l := ops.toList
  let b := befores l
  cond (draw && !drawOk C f ops b) none <|
  cond (C.join f id)
    (match l.getLast? with
     | some o => (match o.dst with
       | some d => cond (l.all fun o => opQuiet C o.op)
          ((evOpsK C tk f ops (fun _ => true) 0 l s (fun s => some (s.tm.getD d (.junk, .none)))).bind fun e =>
            decVal C.P o.type (e.1, .none) fun e => K { s with tm := (junkT l s.tm).set d e }) none
       | none => none)
     | none => none)
    (evOpsK C tk f ops (fun i => draw && noSigs C f l b i) 0 l s fun s => cond (draw && !drawDyn ops b s) none (K s))
end
def ctxOf (L : LoopCfg) (s : St) : List AVal := L.keeps.map fun k => stripA (s.tm.getD k (.undef, .none)).1
def lookN (i : Nat) : List Nat → List AVal → Option AVal
  | k :: ks, a :: ls => cond (k == i) (some a) (lookN i ks ls)
  | _, _ => none
def ctxT (keeps : List Nat) (ctx : List AVal) : Nat → Nat → List Ent
  | _, 0 => []
  | i, n + 1 => (match lookN i keeps ctx with
    | some a => (a, .none)
    | none => (.junk, .none)) :: ctxT keeps ctx (i + 1) n
def ntmpsOf (P : Program) (f : FuncId) : Nat := match P.funcs[f]? with
  | some fn => fn.ntmps
  | none => 0
def unpackC {β : Type} (C : Cfg) (L : LoopCfg) (n : Nat) (ctx : List AVal) (v : Vars) (K : St → Option β) : Option β :=
  unpackM C.P (ctxT L.keeps ctx 0 n) L.mods v.1 fun tm l => unpackB C.P (List.replicate n none) L.boxes l fun lo => K { tm := tm, lo := lo, sg := v.2 }
theorem ctxT_keepT (keeps : List Nat) (f : Nat → AVal) : ∀ (tm : List Ent) (i : Nat), (∀ j e, tm[j]? = some e → f (i + j) = stripA e.1) → keepT keeps i tm = ctxT keeps (keeps.map f) i tm.length
  | [], i, _ => rfl
  | e :: r, i, h => by
    have h0 : f i = stripA e.1 := h 0 e rfl
    have hl : ∀ ks : List Nat, lookN i ks (ks.map f) = cond (ks.contains i) (some (f i)) none := by
      intro ks
      induction ks with
      | nil => rfl
      | cons k ks ih =>
        simp only [List.map_cons, lookN, ih, List.contains_cons]
        cases hk : (k == i) with
        | true =>
          have : k = i := by simpa using hk
          subst this
          simp
        | false =>
          have : (i == k) = false := by
            rw [beq_eq_false_iff_ne] at hk ⊢
            exact fun h => hk h.symm
          simp [this]
    simp only [keepT, List.length_cons, ctxT]
    rw [hl, ctxT_keepT keeps f r (i + 1) fun j e' he => by rw [Nat.add_assoc, Nat.add_comm 1 j]; exact h (j + 1) e' (by simpa using he)]
    cases keeps.contains i <;> simp [h0]
theorem unpackC_eq {β : Type} {C : Cfg} {L : LoopCfg} {n : Nat} {s : St} (h1 : s.tm.length = n) (h2 : s.lo.length = n) (v : Vars) (K : St → Option β) : unpackC C L n (ctxOf L s) v K = unpackV C L s v K := by
  unfold unpackC unpackV ctxOf
  rw [ctxT_keepT L.keeps (fun k => stripA (s.tm.getD k (.undef, .none)).1) s.tm 0 (fun j e he => by rw [Nat.zero_add]; simp only [List.getD, he]; rfl), h1]
  have : (s.lo.map fun _ => (none : Option (List Ent))) = List.replicate n none := by
    rw [← h2]
    induction s.lo with
    | nil => rfl
    | cons a l ih => simp [List.replicate_succ, ih]
  rw [this]
def evCK (C : Cfg) (tk : CallK) (lk : LoopK) (f : FuncId) : Code → Nat → (β : Type) → St → (Ex → St → Option β) → Option β
  | .skip, _, _, s, K => K .normal s
  | .label _, _, _, s, K => K .normal s
  | .region id ops draw, _, _, s, K => evRegK C tk f id ops draw s (K .normal)
  | .seq x y, b, β, s, K => evCK C tk lk f x b β s fun e s => match e with
    | .normal => evCK C tk lk f y b β s K
    | e => K e s
  | .cond c x y, b, β, s, K => (match (s.ev C c).1 with
    | .dat (.bool t) => cond t (evCK C tk lk f x b β s K) (evCK C tk lk f y b β s K)
    | _ => none)
  | .block id x, _, β, s, K => evCK C tk lk f x id β s fun e s => match e with
    | .exit j => cond (j == id) (K .normal s) (K (.exit j) s)
    | e => K e s
  | .loop x, b, β, s, K =>
    let L := C.loop f b
    cond (keepsOk C f b L s x && (s.tm.length == ntmpsOf C.P f && s.lo.length == ntmpsOf C.P f))
      (packV L s fun v => lk f b (ctxOf L s) v β fun r => unpackV C L s r.2 fun s => onEx r.1 L.exits fun e => K e s)
      none
  | .scope x, b, β, s, K => evCK C tk lk f x b β s K
  | .exit id, _, _, s, K => K (.exit id) s
  | .ret, _, _, s, K => K .ret s
  | _, _, _, _, _ => none
def evFK (C : Cfg) (tk : CallK) (lk : LoopK) (f : FuncId) (args : List AVal) (sg : Sig) (γ : Type) (K : List Ent × Sig → Option γ) : Option γ :=
  match C.P.funcs[f]? with
  | none => none
  | some fn =>
    match fn.body with
    | none => none
    | some body =>
      cond (handsAll args && nodupN ((loopsOf 0 body).map (·.1)))
      (evCK C tk lk f body 0 γ { tm := firstOwn (C.ownArg f) (args.map (stripA · , .none)) ++ List.replicate (fn.ntmps - args.length) (.undef, .none), lo := List.replicate fn.ntmps none, sg := sg } fun e s =>
        cond (match e with
          | .exit _ => true
          | _ => false) none <|
        (resultsA C s fn.results.toList fun rs =>
          cond (handsAll (rs.map (·.1)))
            (outsOwn (C.ownRes f) rs fun rs => some (rs, cond (fn.resultTypes.toList.all (plainT C.P) && plainL (rs.map (·.1))) (s.sg.take sg.length) s.sg)) none).bind K)
      none
def roundK (C : Cfg) (tk : CallK) (lk : LoopK) (f : FuncId) (b : Nat) (s : List AVal) (v : Vars) (γ : Type) (K : Ex × Vars → Option γ) : Option γ :=
  unpackC C (C.loop f b) (ntmpsOf C.P f) s v fun s => evCK C tk lk f (bodyOf C.P f b) b γ s fun e s => packV (C.loop f b) s fun v => K (e, v)
noncomputable def roundL (C : Cfg) (f : FuncId) (b : Nat) (s : List AVal) : Vars → Option (Ex × Vars) :=
  fun v => unpackC C (C.loop f b) (ntmpsOf C.P f) s v fun s => evC C (callL C) iterL f (bodyOf C.P f b) b (Ex × Vars) s fun e s => packV (C.loop f b) s fun v => some (e, v)
def contL {γ : Type} (S : Vars → Option γ) (K : Ex × Vars → Option γ) (r : Ex × Vars) : Option γ :=
  match r.1 with
  | .normal => S r.2
  | _ => K r
def fuel : Nat := 18446744073709551616
structure TabOk (C : Cfg) (tk : CallK) (lk : LoopK) : Prop where
  call : ∀ f a s γ K q, tk f a s γ K = some q → ∃ r, callL C f a s = some r ∧ K r = some q
  loop : ∀ f b s v γ K q, lk f b s v γ K = some q → ∃ r, iterL (roundL C f b s) v = some r ∧ K r = some q
section
variable {β : Type} {r : β} {C : Cfg} {tk : CallK} {lk : LoopK} {f : FuncId}
theorem decVals_all {P : Program} {ts : List TypeId} {es : List Ent} {F : List Ent → Option β} (h : decVals P ts es F = some r) : ∃ es', F es' = some r ∧ ∀ (γ : Type) (G : List Ent → Option γ), decVals P ts es G = G es' := by
  obtain ⟨e, h1, h2⟩ := decVals_any (γ := List Ent) h
  refine ⟨e, h2, fun γ G => ?_⟩
  obtain ⟨e', h3, h4⟩ := decVals_any (γ := γ) (h1 some)
  cases h4
  exact h3 G
theorem decVal_all {P : Program} {t : TypeId} {e : Ent} {F : Ent → Option β} (h : decVal P t e F = some r) : ∃ e', F e' = some r ∧ ∀ (γ : Type) (G : Ent → Option γ), decVal P t e G = G e' := by
  obtain ⟨e, h1, h2⟩ := decVal_any (γ := Ent) h
  refine ⟨e, h2, fun γ G => ?_⟩
  obtain ⟨e', h3, h4⟩ := decVal_any (γ := γ) (h1 some)
  cases h4
  exact h3 G
theorem callAK_snd (hT : TabOk C tk lk) {ns : Bool} {sg : Sig} {dst : Option Nat} {g : FuncId} {args : List AVal} {K : Dl → Option β} (h : callAK C tk ns sg dst g args K = some r) :
    ∃ d, K d = some r ∧ ∀ (γ : Type) (G : Dl → Option γ), callA C (callL C) ns sg dst g args G = G d := by
  unfold callAK at h
  split at h
  · rename_i fn dt hfn
    cases hh : (!handsAll args || fn.body.isNone || (C.ownArg g).isSome) with
    | true => rw [hh] at h; cases h
    | false =>
      rw [hh, cond_false] at h
      cases hpl : (plainL args && fn.resultTypes.toList.all (plainT C.P)) with
      | true =>
        rw [hpl, cond_true] at h
        obtain ⟨res, hc, h⟩ := hT.call _ _ _ _ _ _ h
        obtain ⟨rs, h1, h2⟩ := decVals_all h
        cases how : C.ownRes g with
        | none =>
          simp only [how] at h1
          refine ⟨_, h1, fun γ G => ?_⟩
          simp only [callA, hfn, hh, hpl, hc, how, cond_true, cond_false, Option.bind_some, h2]
        | some p =>
          obtain ⟨i, n⟩ := p
          simp only [how] at h1
          obtain ⟨h3, h4⟩ := cond_any h1
          refine ⟨_, h4, fun γ G => ?_⟩
          simp only [callA, hfn, hh, hpl, hc, how, cond_true, cond_false, Option.bind_some, h2, h3]
      | false =>
        rw [hpl, cond_false] at h
        cases hns : (ns || (C.ownRes g).isSome) with
        | true => rw [hns] at h; cases h
        | false =>
          rw [hns, cond_false] at h
          obtain ⟨res, hc, h⟩ := hT.call _ _ _ _ _ _ h
          obtain ⟨rs, h1, h2⟩ := decVals_all h
          refine ⟨_, h1, fun γ G => ?_⟩
          simp only [callA, hfn, hh, hpl, hns, hc, cond_false, Option.bind_some, h2]
  · cases h
theorem ownCallAK_snd (hT : TabOk C tk lk) {g : FuncId} {z : Nat} {x : Ent} {rest : List AVal} {K : Dl → Option β} (h : ownCallAK C tk g z x rest K = some r) :
    ∃ d, K d = some r ∧ ∀ (γ : Type) (G : Dl → Option γ), ownCallA C (callL C) g z x rest G = G d := by
  unfold ownCallAK at h
  split at h
  · rename_i fn es t n hfn
    obtain ⟨h1, h2⟩ := cond_any h
    obtain ⟨res, hc, h3⟩ := hT.call _ _ _ _ _ _ h2
    obtain ⟨fs, u, h4, h5⟩ := ownRes1_some h3
    refine ⟨_, h5, fun γ G => ?_⟩
    simp only [ownCallA, hfn, h1, cond_true, hc, Option.bind_some, h4, ownRes1, beq_self_eq_true]
  · cases h
theorem evDK_snd (hT : TabOk C tk lk) {ns : Bool} {ev : Operand → Ent} {lo : List (Option (List Ent))} {sg : Sig} {o : Oper} {K : Dl → Option β} (h : evDK C tk f ns ev lo sg o K = some r) :
    ∃ d, K d = some r ∧ ∀ (γ : Type) (G : Dl → Option γ), evD C (callL C) f ns ev lo sg o G = G d := by
  have plain : ∀ (h : evD C (fun _ _ _ => none) f ns ev lo sg o K = some r), (∀ (γ : Type) (G : Dl → Option γ), evD C (callL C) f ns ev lo sg o G = evD C (fun _ _ _ => none) f ns ev lo sg o G) →
      ∃ d, K d = some r ∧ ∀ (γ : Type) (G : Dl → Option γ), evD C (callL C) f ns ev lo sg o G = G d := by
    intro h he
    obtain ⟨d, _, h2, h3⟩ := evD_all h
    exact ⟨d, h2, fun γ G => by rw [he]; exact h3 γ G⟩
  unfold evDK at h
  cases hop : o.op
  case call c =>
    simp only [hop] at h
    split at h
    · rename_i fo hfo
      split at h
      · rename_i p hp
        obtain ⟨d, n, h1, h2, h3, h4, h5, h6⟩ := growA_some h
        refine ⟨_, h6, fun γ G => ?_⟩
        unfold evD
        simp only [hop, hfo, hp, growA, h1, h2, decide_eq_true h3, decide_eq_true h4, decide_eq_true h5, Bool.and_self, cond_true]
      rename_i hp
      split at h
      · rename_i p hp2
        obtain ⟨d, h1, h2⟩ := ownCallAK_snd hT h
        refine ⟨d, h1, fun γ G => ?_⟩
        unfold evD
        simp only [hop, hfo, hp, hp2]
        exact h2 γ G
      rename_i hp2
      split at h
      · rename_i g first caps hev
        obtain ⟨h1, h2⟩ := cond_any h
        obtain ⟨d, h3, h4⟩ := callAK_snd hT h2
        refine ⟨d, h3, fun γ G => ?_⟩
        unfold evD
        simp only [hop, hfo, hp, hp2, hev, h1, cond_true]
        exact h4 γ G
      · cases h
    · rename_i hne
      refine plain h fun γ G => ?_
      unfold evD
      simp only [hop]
      split
      · rfl
      · rfl
      · rfl
      · rfl
      · rename_i fo hfo
        exact absurd hfo (hne fo)
      · rfl
  all_goals
    simp only [hop] at h
    exact plain h fun γ G => by unfold evD; simp only [hop]
theorem evOpK_snd (hT : TabOk C tk lk) {ns : Bool} {s : St} {o : Oper} {K : St → Option β} (h : evOpK C tk f ns s o K = some r) :
    ∃ s', K s' = some r ∧ ∀ (γ : Type) (G : St → Option γ), evOp C (callL C) f ns s o G = G s' := by
  obtain ⟨d, h1, h2⟩ := evDK_snd hT h
  exact ⟨_, h1, fun γ G => h2 γ _⟩
theorem evOperK_snd (hT : TabOk C tk lk) {ns : Bool} {ops : Array Oper} {s : St} {o : Oper} {K : St → Option β} (h : evOperK C tk f ns ops s o K = some r) :
    ∃ s', K s' = some r ∧ ∀ (γ : Type) (G : St → Option γ), evOper C (callL C) f ns ops s o G = G s' := by
  unfold evOperK at h
  split at h
  · rename_i hg
    obtain ⟨s', h1, h2⟩ := evOpK_snd hT h
    exact ⟨s', h1, fun γ G => by simp only [evOper, hg]; exact h2 γ G⟩
  · rename_i j want hg
    split at h
    · rename_i hj
      exact ⟨_, h, fun γ G => by simp only [evOper, hg, hj]⟩
    · rename_i d hj
      split at h
      · rename_i b ow hd
        cases b with
        | true =>
          simp only [cond_true] at h
          cases want with
          | true =>
            simp only [cond_true] at h
            obtain ⟨s', h1, h2⟩ := evOpK_snd hT h
            exact ⟨s', h1, fun γ G => by simp only [evOper, hg, hj, hd, cond_true]; exact h2 γ G⟩
          | false => exact ⟨_, h, fun γ G => by simp only [evOper, hg, hj, hd, cond_true, cond_false]⟩
        | false =>
          simp only [cond_false] at h
          cases want with
          | true => exact ⟨_, h, fun γ G => by simp only [evOper, hg, hj, hd, cond_true, cond_false]⟩
          | false =>
            simp only [cond_false] at h
            obtain ⟨s', h1, h2⟩ := evOpK_snd hT h
            exact ⟨s', h1, fun γ G => by simp only [evOper, hg, hj, hd, cond_false]; exact h2 γ G⟩
      · rename_i hd
        exact ⟨_, h, fun γ G => by simp only [evOper, hg, hj, hd]⟩
      · cases h
theorem evOpsK_snd (hT : TabOk C tk lk) {ops : Array Oper} {ns : Nat → Bool} : ∀ {l : List Oper} {i : Nat} {s : St} {β : Type} {K : St → Option β} {r : β}, evOpsK C tk f ops ns i l s K = some r →
    ∃ s', K s' = some r ∧ ∀ (γ : Type) (G : St → Option γ), evOps C (callL C) f ops ns i l s G = G s'
  | [], i, s, β, K, r, h => ⟨s, h, fun _ _ => rfl⟩
  | o :: l, i, s, β, K, r, h => by
    simp only [evOpsK] at h
    obtain ⟨s1, h1, h2⟩ := evOperK_snd hT h
    obtain ⟨s2, h3, h4⟩ := evOpsK_snd hT h1
    exact ⟨s2, h3, fun γ G => by simp only [evOps]; rw [h2, h4]⟩
theorem evRegK_snd (hT : TabOk C tk lk) {id : Nat} {ops : Array Oper} {draw : Bool} {s : St} {K : St → Option β} (h : evRegK C tk f id ops draw s K = some r) :
    ∃ s', K s' = some r ∧ ∀ (γ : Type) (G : St → Option γ), evReg C (callL C) f id ops draw s G = G s' := by
  unfold evRegK at h
  dsimp only at h
  cases hd : (draw && !drawOk C f ops (befores ops.toList)) with
  | true => rw [hd] at h; cases h
  | false =>
    rw [hd, cond_false] at h
    cases hj : C.join f id with
    | true =>
      rw [hj, cond_true] at h
      split at h
      · rename_i o hlast
        split at h
        · rename_i d hdst
          obtain ⟨hq, h⟩ := cond_any h
          rw [Option.bind_eq_some_iff] at h
          obtain ⟨e, h1, h2⟩ := h
          obtain ⟨s1, h3, h4⟩ := evOpsK_snd hT h1
          cases h3
          obtain ⟨e', h5, h6⟩ := decVal_all h2
          refine ⟨_, h5, fun γ G => ?_⟩
          unfold evReg
          dsimp only
          simp only [hd, hj, cond_false, cond_true, hlast, hdst, hq]
          rw [h4, Option.bind_some, h6]
        · cases h
      · cases h
    | false =>
      rw [hj, cond_false] at h
      obtain ⟨s1, h3, h4⟩ := evOpsK_snd hT h
      cases hy : (draw && !drawDyn ops (befores ops.toList) s1) with
      | true => rw [hy] at h3; cases h3
      | false =>
        rw [hy, cond_false] at h3
        refine ⟨s1, h3, fun γ G => ?_⟩
        unfold evReg
        dsimp only
        simp only [hd, hj, cond_false]
        rw [h4]
        simp only [hy, cond_false]
theorem evCK_snd (hT : TabOk C tk lk) : ∀ (c : Code) {b : Nat} {β : Type} {s : St} {K : Ex → St → Option β} {r : β}, (∀ p ∈ loopsOf b c, bodyOf C.P f p.1 = p.2) → evCK C tk lk f c b β s K = some r →
    ∃ ex s', K ex s' = some r ∧ ∀ (γ : Type) (G : Ex → St → Option γ), evC C (callL C) iterL f c b γ s G = G ex s' := by
  intro c
  induction c with
  | skip => intro b β s K r _ h; exact ⟨.normal, s, h, fun _ _ => rfl⟩
  | label l => intro b β s K r _ h; exact ⟨.normal, s, h, fun _ _ => rfl⟩
  | exit id => intro b β s K r _ h; exact ⟨.exit id, s, h, fun _ _ => rfl⟩
  | ret => intro b β s K r _ h; exact ⟨.ret, s, h, fun _ _ => rfl⟩
  | region id ops draw =>
    intro b β s K r _ h
    simp only [evCK] at h
    obtain ⟨s', h1, h2⟩ := evRegK_snd hT h
    exact ⟨.normal, s', h1, fun γ G => h2 γ _⟩
  | seq x y ihx ihy =>
    intro b β s K r hl h
    simp only [evCK] at h
    have hl1 : ∀ p ∈ loopsOf b x, bodyOf C.P f p.1 = p.2 := fun p hp => hl p (by simp [loopsOf, hp])
    have hl2 : ∀ p ∈ loopsOf b y, bodyOf C.P f p.1 = p.2 := fun p hp => hl p (by simp [loopsOf, hp])
    obtain ⟨ex, s1, h1, h2⟩ := ihx hl1 h
    cases ex with
    | normal =>
      obtain ⟨ex', s2, h5, h6⟩ := ihy hl2 h1
      refine ⟨ex', s2, h5, fun γ G => ?_⟩
      simp only [evC]; rw [h2]; exact h6 γ G
    | exit i => exact ⟨.exit i, s1, h1, fun γ G => by simp only [evC]; rw [h2]⟩
    | ret => exact ⟨.ret, s1, h1, fun γ G => by simp only [evC]; rw [h2]⟩
  | cond c x y ihx ihy =>
    intro b β s K r hl h
    simp only [evCK] at h
    have hl1 : ∀ p ∈ loopsOf b x, bodyOf C.P f p.1 = p.2 := fun p hp => hl p (by simp [loopsOf, hp])
    have hl2 : ∀ p ∈ loopsOf b y, bodyOf C.P f p.1 = p.2 := fun p hp => hl p (by simp [loopsOf, hp])
    split at h
    · rename_i t ht
      cases t with
      | true =>
        obtain ⟨ex, s1, h1, h2⟩ := ihx hl1 h
        exact ⟨ex, s1, h1, fun γ G => by simp only [evC, ht, cond_true]; exact h2 γ G⟩
      | false =>
        obtain ⟨ex, s1, h1, h2⟩ := ihy hl2 h
        exact ⟨ex, s1, h1, fun γ G => by simp only [evC, ht, cond_false]; exact h2 γ G⟩
    · cases h
  | scope x ih =>
    intro b β s K r hl h
    simp only [evCK] at h
    obtain ⟨ex, s1, h1, h2⟩ := ih (fun p hp => hl p (by simpa [loopsOf] using hp)) h
    exact ⟨ex, s1, h1, fun γ G => by simp only [evC]; exact h2 γ G⟩
  | block id x ih =>
    intro b β s K r hl h
    simp only [evCK] at h
    obtain ⟨ex, s1, h1, h2⟩ := ih hl h
    cases ex with
    | normal => exact ⟨.normal, s1, h1, fun γ G => by simp only [evC]; rw [h2]⟩
    | ret => exact ⟨.ret, s1, h1, fun γ G => by simp only [evC]; rw [h2]⟩
    | exit j =>
      simp only at h1
      cases hj : (j == id) with
      | true =>
        rw [hj, cond_true] at h1
        exact ⟨.normal, s1, h1, fun γ G => by simp only [evC]; rw [h2]; simp only [hj, cond_true]⟩
      | false =>
        rw [hj, cond_false] at h1
        exact ⟨.exit j, s1, h1, fun γ G => by simp only [evC]; rw [h2]; simp only [hj, cond_false]⟩
  | loop x ih =>
    intro b β s K r hl h
    simp only [evCK] at h
    obtain ⟨h1, h2⟩ := cond_any h
    obtain ⟨v, h3, h4⟩ := packV_all h2
    obtain ⟨⟨e, v'⟩, h5, h6⟩ := hT.loop _ _ _ _ _ _ _ h4
    have hb : bodyOf C.P f b = x := hl (b, x) (by simp [loopsOf])
    simp only [Bool.and_eq_true, beq_iff_eq] at h1
    have hun : ∀ (δ : Type) (v : Vars) (G : St → Option δ), unpackC C (C.loop f b) (ntmpsOf C.P f) (ctxOf (C.loop f b) s) v G = unpackV C (C.loop f b) s v G := fun δ v G => unpackC_eq h1.2.1 h1.2.2 v G
    unfold roundL at h5
    rw [hb] at h5
    simp only [hun] at h5
    obtain ⟨s1, h7, h8⟩ := unpackV_all h6
    obtain ⟨h9, h10⟩ := onEx_all (s := s1) h8
    refine ⟨e, s1, h9, fun γ G => ?_⟩
    simp only [evC, h1.1, cond_true]
    rw [h3, h5, Option.bind_some, h7, h10]
  | _ => intro b β s K r _ h; simp only [evCK, reduceCtorEq] at h
theorem nodupN_mem : ∀ {l : List (Nat × Code)}, nodupN (l.map (·.1)) = true → ∀ p ∈ l, findB p.1 l = p.2
  | [], _, p, hp => by cases hp
  | a :: l, h, p, hp => by
    simp only [List.map_cons, nodupN, Bool.and_eq_true, Bool.not_eq_true', List.contains_eq_mem, decide_eq_false_iff_not] at h
    rcases List.mem_cons.1 hp with rfl | hp
    · simp [findB]
    · have : (a.1 == p.1) = false := by
        rw [beq_eq_false_iff_ne]
        intro he
        exact h.1 (he ▸ List.mem_map.2 ⟨p, hp, rfl⟩)
      rw [findB, this, cond_false]
      exact nodupN_mem h.2 p hp
theorem evFK_snd (hT : TabOk C tk lk) {args : List AVal} {sg : Sig} {γ : Type} {K : List Ent × Sig → Option γ} {q : γ} (h : evFK C tk lk f args sg γ K = some q) :
    ∃ r, evF C (callL C) iterL f args sg = some r ∧ K r = some q := by
  unfold evFK at h
  split at h
  · cases h
  · rename_i fn hfn
    split at h
    · cases h
    · rename_i body hbody
      obtain ⟨hh, h⟩ := cond_any h
      rw [Bool.and_eq_true] at hh
      have hbo : ∀ p ∈ loopsOf 0 body, bodyOf C.P f p.1 = p.2 := by
        intro p hp
        unfold bodyOf
        rw [hfn, Option.bind_some, hbody]
        exact nodupN_mem hh.2 p hp
      obtain ⟨ex, s', h1, h2⟩ := evCK_snd hT body hbo h
      unfold evF
      simp only [hfn, hbody, hh.1, cond_true, h2]
      cases ex with
      | exit i => cases h1
      | normal =>
        obtain ⟨r, h3, h4⟩ := Option.bind_eq_some_iff.1 h1
        exact ⟨r, h3, h4⟩
      | ret =>
        obtain ⟨r, h3, h4⟩ := Option.bind_eq_some_iff.1 h1
        exact ⟨r, h3, h4⟩
def addK (t : CallK) (f : FuncId) (S : List AVal → Sig → (γ : Type) → (List Ent × Sig → Option γ) → Option γ) : CallK := fun g a s γ K => cond (g == f) (S a s γ K) (t g a s γ K)
def addL (t : LoopK) (f : FuncId) (b : Nat) (S : List AVal → Vars → (γ : Type) → (Ex × Vars → Option γ) → Option γ) : LoopK := fun g c s v γ K => cond (g == f && c == b) (S s v γ K) (t g c s v γ K)
theorem tab_none (C : Cfg) : TabOk C (fun _ _ _ _ _ => none) (fun _ _ _ _ _ _ => none) := ⟨fun f a s γ K q h => (by cases h), fun f b s v γ K q h => (by cases h)⟩
abbrev Ent3 := List AVal → Sig → (γ : Type) → (List Ent × Sig → Option γ) → Option γ
abbrev Loop3 := List AVal → Vars → (γ : Type) → (Ex × Vars → Option γ) → Option γ
def none3 : Ent3 := fun _ _ _ _ => none
def noneL3 : Loop3 := fun _ _ _ _ => none
def noneK : CallK := fun _ _ _ _ _ => none
def noneL : LoopK := fun _ _ _ _ _ _ => none
def EntOk (C : Cfg) (f : FuncId) (S : List AVal → Sig → (γ : Type) → (List Ent × Sig → Option γ) → Option γ) : Prop :=
  ∀ a s γ K q, S a s γ K = some q → ∃ r, callL C f a s = some r ∧ K r = some q
def EntOkL (C : Cfg) (f : FuncId) (b : Nat) (S : List AVal → Vars → (γ : Type) → (Ex × Vars → Option γ) → Option γ) : Prop :=
  ∀ s v γ K q, S s v γ K = some q → ∃ r, iterL (roundL C f b s) v = some r ∧ K r = some q
theorem ent_none (C : Cfg) (f : FuncId) : EntOk C f none3 := fun a s γ K q h => by cases h
theorem entL_none (C : Cfg) (f : FuncId) (b : Nat) : EntOkL C f b noneL3 := fun a s γ K q h => by cases h
theorem tab_nil (C : Cfg) : TabOk C noneK noneL := tab_none C
theorem ent_prim {F : List AVal → Sig → Option (List Ent × Sig)} {S : List AVal → Sig → (γ : Type) → (List Ent × Sig → Option γ) → Option γ} (hp : C.prim f = some F)
    (hS : ∀ a s γ K q, S a s γ K = some q → (F a s).bind K = some q) : EntOk C f S := by
  intro a s γ K q h
  have := hS a s γ K q h
  rw [Option.bind_eq_some_iff] at this
  obtain ⟨r, h1, h2⟩ := this
  exact ⟨r, callL_prim hp h1, h2⟩
theorem tab_call (hT : TabOk C tk lk) {S : List AVal → Sig → (γ : Type) → (List Ent × Sig → Option γ) → Option γ} (h : EntOk C f S) : TabOk C (addK tk f S) lk := by
  refine ⟨fun g a s γ K q hq => ?_, hT.loop⟩
  unfold addK at hq
  cases hg : (g == f) with
  | true =>
    rw [hg, cond_true] at hq
    have : g = f := by simpa using hg
    subst this
    exact h a s γ K q hq
  | false =>
    rw [hg, cond_false] at hq
    exact hT.call g a s γ K q hq
theorem tab_loop (hT : TabOk C tk lk) {b : Nat} {S : List AVal → Vars → (γ : Type) → (Ex × Vars → Option γ) → Option γ} (h : EntOkL C f b S) : TabOk C tk (addL lk f b S) := by
  refine ⟨hT.call, fun g c s v γ K q hq => ?_⟩
  unfold addL at hq
  cases hg : (g == f && c == b) with
  | true =>
    rw [hg, cond_true] at hq
    simp only [Bool.and_eq_true, beq_iff_eq] at hg
    obtain ⟨rfl, rfl⟩ := hg
    exact h s v γ K q hq
  | false =>
    rw [hg, cond_false] at hq
    exact hT.loop g c s v γ K q hq
theorem unpackC_any {γ : Type} {L : LoopCfg} {n : Nat} {ctx : List AVal} {v : Vars} {K : St → Option β} (h : unpackC C L n ctx v K = some r) : ∃ s1, (∀ G : St → Option γ, unpackC C L n ctx v G = G s1) ∧ K s1 = some r := by
  unfold unpackC at h
  obtain ⟨tm, l, h1, h2, _⟩ := unpackM_any (γ := γ) h
  obtain ⟨lo, h3, h4, _⟩ := unpackB_any (γ := γ) h2
  exact ⟨_, fun G => by simp only [unpackC]; rw [h1, h3], h4⟩
theorem unpackC_all {L : LoopCfg} {n : Nat} {ctx : List AVal} {v : Vars} {K : St → Option β} (h : unpackC C L n ctx v K = some r) : ∃ s1, (∀ (γ : Type) (G : St → Option γ), unpackC C L n ctx v G = G s1) ∧ K s1 = some r := by
  obtain ⟨s1, h1, h2⟩ := unpackC_any (γ := St) h
  refine ⟨s1, fun γ G => ?_, h2⟩
  obtain ⟨v', h3, h4⟩ := unpackC_any (γ := γ) (h1 some)
  cases h4
  exact h3 G
theorem roundK_snd (hT : TabOk C tk lk) {b : Nat} {s : List AVal} {v : Vars} {γ : Type} {K : Ex × Vars → Option γ} {q : γ} (hb : ∀ p ∈ loopsOf b (bodyOf C.P f b), bodyOf C.P f p.1 = p.2) (h : roundK C tk lk f b s v γ K = some q) :
    ∃ r, roundL C f b s v = some r ∧ K r = some q := by
  unfold roundK at h
  obtain ⟨s1, h1, h2⟩ := unpackC_all h
  obtain ⟨ex, s2, h3, h4⟩ := evCK_snd hT _ hb h2
  obtain ⟨v', h5, h6⟩ := packV_all h3
  exact ⟨(ex, v'), by unfold roundL; rw [h1, h4, h5], h6⟩
def loopsIn (P : Program) (f : FuncId) (b : Nat) : Bool :=
  match (P.funcs[f]?).bind (·.body) with
  | some x => nodupN ((loopsOf 0 x).map (·.1)) && (loopsOf 0 x).any (·.1 == b)
  | none => false
theorem loopsOf_sub : ∀ (c : Code) {i b : Nat} {x : Code}, (b, x) ∈ loopsOf i c → ∀ p ∈ loopsOf b x, p ∈ loopsOf i c := by
  intro c
  induction c with
  | loop y ih =>
    intro i b x h p hp
    simp only [loopsOf, List.mem_cons, Prod.mk.injEq] at h ⊢
    rcases h with ⟨rfl, rfl⟩ | h
    · exact Or.inr hp
    · exact Or.inr (ih h p hp)
  | seq x y ihx ihy =>
    intro i b z h p hp
    simp only [loopsOf, List.mem_append] at h ⊢
    rcases h with h | h
    · exact Or.inl (ihx h p hp)
    · exact Or.inr (ihy h p hp)
  | cond c x y ihx ihy =>
    intro i b z h p hp
    simp only [loopsOf, List.mem_append] at h ⊢
    rcases h with h | h
    · exact Or.inl (ihx h p hp)
    · exact Or.inr (ihy h p hp)
  | block id x ih =>
    intro i b z h p hp
    simp only [loopsOf] at h ⊢
    exact ih h p hp
  | scope x ih =>
    intro i b z h p hp
    simp only [loopsOf] at h ⊢
    exact ih h p hp
  | _ => intro i b x h; simp [loopsOf] at h
theorem loopsIn_ok {P : Program} {b : Nat} (h : loopsIn P f b = true) : ∀ p ∈ loopsOf b (bodyOf P f b), bodyOf P f p.1 = p.2 := by
  unfold loopsIn at h
  cases hx : (P.funcs[f]?).bind (·.body) with
  | none => rw [hx] at h; cases h
  | some x =>
    rw [hx] at h
    simp only [Bool.and_eq_true, List.any_eq_true, beq_iff_eq] at h
    obtain ⟨hn, ⟨b', y⟩, hy, rfl⟩ := h
    have e : ∀ c, bodyOf P f c = findB c (loopsOf 0 x) := fun c => by unfold bodyOf; rw [hx]
    intro p hp
    simp only [e] at hp ⊢
    rw [nodupN_mem hn _ hy] at hp
    exact nodupN_mem hn p (loopsOf_sub x hy p hp)
theorem body_ok (hT : TabOk C tk lk) (hp : C.prim f = none) {a : List AVal} {s : Sig} {γ : Type} {K : List Ent × Sig → Option γ} {q : γ} (h : evFK C tk lk f a s γ K = some q) : ∃ r, callL C f a s = some r ∧ K r = some q := by
  obtain ⟨r, h1, h2⟩ := evFK_snd hT h
  exact ⟨r, callL_of hp h1, h2⟩
theorem entL_rounds (hT : TabOk C tk lk) {b : Nat} (hb : loopsIn C.P f b = true) {S : Nat → List AVal → Vars → (γ : Type) → (Ex × Vars → Option γ) → Option γ}
    (h0 : ∀ s v γ K, S 0 s v γ K = none)
    (hS : ∀ n s v γ K q, S (n + 1) s v γ K = some q → roundK C tk lk f b s v γ (contL (fun v => S n s v γ K) K) = some q) : ∀ n, EntOkL C f b (S n)
  | 0 => fun s v γ K q h => by rw [h0] at h; cases h
  | n + 1 => fun s v γ K q h => by
    obtain ⟨⟨e, v'⟩, h1, h2⟩ := roundK_snd hT (loopsIn_ok hb) (hS n s v γ K q h)
    cases e with
    | normal =>
      obtain ⟨r, h3, h4⟩ := entL_rounds hT hb h0 hS n s v' γ K q h2
      exact ⟨r, by rw [iterL_step h1]; exact h3, h4⟩
    | exit i => exact ⟨_, by rw [iterL_step h1], h2⟩
    | ret => exact ⟨_, by rw [iterL_step h1], h2⟩
end
end Go.Aev

end
section
/- The arguments that a row hands, opened by their types; what is read again behind a call that turned nothing. -/
namespace Go.Aev
open Go.ChangeShapes Go.WideShapes Go.RowKit
def hasFs (rec : TypeId → List Dat → Prop) : List Field → List Dat → Prop
  | [], ds => ds = []
  | f :: fs, ds => ∃ a b, ds = a ++ b ∧ rec f.type a ∧ hasFs rec fs b
def hasT (P : Program) : Nat → TypeId → List Dat → Prop
  | 0, _, _ => False
  | n + 1, t, ds => match P.underlying t with
    | some .bool => ∃ b, ds = [.bool b]
    | some (.int k) => ∃ x, ds = [.int k x] ∧ (Lit.int k x).wf = true
    | some .string => ∃ s, ds = [.str s] ∧ s.size ≤ maxLen
    | some (.slice e) => ∃ es, ds = [.sl es] ∧ es.length ≤ maxLen ∧ ∀ c, c ∈ es → hasT P n e c
    | some (.struct fs) => hasFs (hasT P n) fs.toList ds
    | _ => False
def sideBy (P : Program) : List Field → Nat → Option Nat
  | [], off => some off
  | f :: fs, off => cond (f.offset == off) (sideBy P fs (off + P.cellsOf f.type)) none
def simpleSet (P : Program) (l : List TypeId) : Bool := l.all fun t => match P.underlying t with
  | some .bool | some (.int _) | some .string => P.cellsOf t == 1
  | some (.slice e) => l.contains e && decide (0 < P.cellsOf e) && (P.cellsOf t == 1)
  | some (.struct fs) => (fs.toList.all fun f => l.contains f.type) && (sideBy P fs.toList 0 == some (P.cellsOf t))
  | _ => false
section
variable {H : Type} {enc : TypeId × Value → H} {P : Program} {w : World} {base : Nat} {spare : Nat → Bool} {held : Bool} {M : Nat → Nat}
theorem open_fs {rec : TypeId → List Dat → Prop} {tr : TypeId → List Value → Option (DataW H × List MemPlace)} {cs : List Value} {l : List TypeId}
    (hrec : ∀ t cs x, t ∈ l → tr t cs = some x → ∃ ds, rec t ds ∧ RepL w M ds cs) :
    ∀ (fs : List Field) (off n : Nat) (xs : List (DataW H × List MemPlace)), (∀ f ∈ fs, f.type ∈ l) → sideBy P fs off = some n → n = cs.length → (∀ f ∈ fs, ∀ c, rec f.type c → c.length = P.cellsOf f.type ∨ True) →
      fs.mapM (fun f => tr f.type ((cs.drop f.offset).take (P.cellsOf f.type))) = some xs → ∃ ds, hasFs rec fs ds ∧ RepL w M ds (cs.drop off)
  | [], off, n, xs, _, hs, hn, _, _ => by
    cases hs
    refine ⟨[], rfl, ?_⟩
    rw [hn, List.drop_length]
    exact ⟨rfl, fun j x v hx _ => by simp at hx⟩
  | f :: fs, off, n, xs, hl, hs, hn, hc, h => by
    simp only [List.mapM_cons, Option.bind_eq_bind, Option.bind_eq_some_iff, Option.pure_def, Option.some.injEq] at h
    obtain ⟨x, hx, ys, hys, rfl⟩ := h
    simp only [sideBy] at hs
    obtain ⟨h1, h2⟩ := cond_any hs
    have h1 : f.offset = off := by simpa using h1
    subst h1
    obtain ⟨b, k1, k2⟩ := open_fs hrec fs _ n ys (fun g hg => hl g (by simp [hg])) h2 hn (fun _ _ _ _ => Or.inr trivial) hys
    obtain ⟨a, k3, k4⟩ := hrec _ _ _ (hl f (by simp)) hx
    refine ⟨a ++ b, ⟨a, b, rfl, k3, k1⟩, ?_⟩
    rw [take_drop_split cs f.offset (P.cellsOf f.type)]
    exact k4.append k2
theorem open_trod {l : List TypeId} (hl : simpleSet P l = true) : ∀ (fuel : Nat) (t : TypeId) (cs : List Value) (x : DataW H × List MemPlace), t ∈ l → DataW.trod enc P w base (fun _ => true) held fuel t cs = some x →
    ∃ ds, hasT P fuel t ds ∧ RepL w (sizes w) ds cs
  | 0, t, cs, x, _, h => by simp [DataW.trod] at h
  | n + 1, t, cs, x, ht, h => by
    have ih := open_trod hl n
    have hone := List.all_eq_true.1 hl t ht
    unfold hasT
    split at hone
    · rename_i hu
      have : ∃ b, cs = [.bool b] := by
        rw [DataW.trod.eq_def] at h
        simp only [hu] at h
        split at h <;> simp_all
      obtain ⟨b, rfl⟩ := this
      exact ⟨[.bool b], ⟨b, rfl⟩, repL_one (.bool b)⟩
    · rename_i k hu
      obtain ⟨z, rfl, _, hw⟩ := DataW.trod_int hu h
      exact ⟨[.int k z], ⟨z, rfl, hw⟩, repL_one (.int k z)⟩
    · rename_i hu
      have : ∃ s : ByteArray, cs = [.string s] ∧ s.size ≤ maxLen := by
        rw [DataW.trod.eq_def] at h
        simp only [hu] at h
        split at h <;> simp_all
      obtain ⟨s, rfl, hs⟩ := this
      exact ⟨[.str s], ⟨s, rfl, hs⟩, repL_one (.str s)⟩
    · rename_i e hu
      simp only [Bool.and_eq_true, List.contains_iff_mem, decide_eq_true_eq] at hone
      obtain ⟨⟨he, hpos⟩, _⟩ := hone
      rcases DataW.trod_slice hu h with ⟨rfl, _⟩ | ⟨a, len, cap, elems, rest, n', hn', rfl, _, _, hlc, hcm, hel, hx, _, _⟩
      · exact ⟨[.sl []], ⟨[], rfl, by simp, fun c hc => by cases hc⟩, repL_one .nilS⟩
      · obtain rfl : n = n' := by omega
        
        have hex : ∀ i, ∃ ds : List Dat, i < len → hasT P n e ds ∧ ds.length = P.cellsOf e ∧ ∀ (j : Nat) d, ds[j]? = some d → ∃ v, w.cell? (a.add (i * P.cellsOf e + j)) = some v ∧ Rep w (sizes w) d v := by
          intro i
          by_cases hi : i < len
          · have h0 := hx i hi
            rw [List.getElem?_eq_getElem (by omega), Option.bind_eq_some_iff] at h0
            obtain ⟨cs', h1, h2⟩ := h0
            obtain ⟨_, hlen, hcell⟩ := World.cells?_some h1
            obtain ⟨ds, k1, k2⟩ := ih e cs' _ he h2
            refine ⟨ds, fun _ => ⟨k1, by rw [k2.1, hlen], fun j d hd => ?_⟩⟩
            have hj : j < cs'.length := by rw [← k2.1]; exact (List.getElem?_eq_some_iff.1 hd).1
            have := hcell j (by omega)
            rw [List.getElem?_eq_getElem hj, add_add] at this
            exact ⟨_, this, k2.2 j d _ hd (List.getElem?_eq_getElem hj)⟩
          · exact ⟨[], fun h => absurd h hi⟩
        obtain ⟨F, hF⟩ := Classical.axiomOfChoice hex
        refine ⟨[.sl ((List.range len).map F)], ⟨_, rfl, by simp; omega, fun c hc => ?_⟩, repL_one ?_⟩
        · obtain ⟨i, hi, rfl⟩ := List.mem_map.1 hc
          exact (hF i (by simpa using hi)).1
        · have hcell : ∀ k, k < len * P.cellsOf e → ∃ v, w.cell? (a.add k) = some v := by
            intro k hk
            have hdm : k / P.cellsOf e * P.cellsOf e + k % P.cellsOf e = k := by rw [Nat.mul_comm]; exact Nat.div_add_mod k _
            have hi : k / P.cellsOf e < len := Nat.div_lt_of_lt_mul (by rw [Nat.mul_comm]; exact hk)
            obtain ⟨_, h2, h3⟩ := hF _ hi
            have hlt : k % P.cellsOf e < (F (k / P.cellsOf e)).length := by rw [h2]; exact Nat.mod_lt _ hpos
            obtain ⟨v, hv, _⟩ := h3 _ _ (List.getElem?_eq_getElem hlt)
            rw [hdm] at hv
            exact ⟨v, hv⟩
          refine .sl (size := P.cellsOf e) (fun k => (w.cell? (a.add k)).getD undef) (by simp) hlc hcm (fun h0 => ?_) (fun c hc => ?_) (fun k hk => ?_) (fun i j c d hi hd => ?_)
          · obtain ⟨v, hv⟩ := hcell 0 (Nat.mul_pos h0 hpos)
            exact spot_of_cell (by simpa [Addr.add] using hv)
          · obtain ⟨i, hi, rfl⟩ := List.mem_map.1 hc
            exact (hF i (by simpa using hi)).2.1
          · obtain ⟨v, hv⟩ := hcell k hk
            refine ⟨by rw [hv]; rfl, ?_⟩
            have := below_sizes hv
            rw [add_off, add_block] at this
            exact this
          · rw [List.getElem?_map, Option.map_eq_some_iff] at hi
            obtain ⟨i', hi', rfl⟩ := hi
            have hir := (List.getElem?_eq_some_iff.1 hi')
            obtain ⟨hlt, rfl⟩ := hir
            have hlt' : i < len := by simpa using hlt
            simp only [List.getElem_range] at hd
            obtain ⟨v, hv, hr⟩ := (hF i hlt').2.2 j d hd
            rw [hv]
            exact hr
    · rename_i fs hu
      simp only [Bool.and_eq_true, List.all_eq_true, List.contains_iff_mem, beq_iff_eq] at hone
      obtain ⟨hf, hside⟩ := hone
      rw [DataW.trod.eq_def] at h
      simp only [hu] at h
      split at h
      · rename_i hlen
        rw [Option.map_eq_some_iff] at h
        obtain ⟨xs, h1, _⟩ := h
        obtain ⟨ds, k1, k2⟩ := open_fs (rec := hasT P n) (fun t cs x ht h => ih t cs x ht h) fs.toList 0 _ xs hf hside hlen.symm (fun _ _ _ _ => Or.inr trivial) h1
        rw [List.drop_zero] at k2
        exact ⟨ds, k1, k2⟩
      · cases h
    · cases hone
def argOf (P : Program) (t : TypeId) (ds : List Dat) : AVal := cond (isAggT P t) (.agg (ds.map fun d => (d, .none))) (match ds with
  | [d] => .dat d
  | _ => .junk)
theorem open_arg {l : List TypeId} (hl : simpleSet P l = true) {r : Reach} {b0 : Nat} {t : TypeId} {v : Value} {d : DataW H} {ps : List MemPlace} (ht : t ∈ l) (hval : Value.okWide P w r b0 t v)
    (h : DataW.Trod enc P w base (fun _ => true) held t v d ps) : ∃ n ds, hasT P n t ds ∧ RepB w (sizes w) [] (argOf P t ds) v := by
  obtain ⟨fuel, hf⟩ := h
  obtain ⟨ds, h1, h2⟩ := open_trod hl fuel t _ _ ht hf
  refine ⟨fuel, ds, h1, ?_⟩
  have hone := List.all_eq_true.1 hl t ht
  have cell : isAggT P t = false → v.cells = #[v] → ds.length = 1 → RepB w (sizes w) [] (argOf P t ds) v := by
    intro ha hv hd
    match ds, hd with
    | [d], _ =>
      unfold argOf
      rw [ha, cond_false]
      rw [hv] at h2
      exact .dat (h2.2 0 d v rfl rfl)
  cases fuel with
  | zero => simp [DataW.trod] at hf
  | succ n =>
    unfold hasT at h1
    unfold Value.okWide at hval
    split at hone
    · rename_i hu
      simp only [hu] at hval h1
      obtain ⟨b, rfl⟩ := h1
      refine cell (by simp [isAggT, hu]) ?_ rfl
      cases v <;> simp_all [Cell.okWide, Cell.ok, Value.cells]
    · rename_i k hu
      simp only [hu] at hval h1
      obtain ⟨b, rfl, _⟩ := h1
      refine cell (by simp [isAggT, hu]) ?_ rfl
      cases v <;> simp_all [Cell.okWide, Cell.ok, Value.cells]
    · rename_i hu
      simp only [hu] at hval h1
      obtain ⟨b, rfl, _⟩ := h1
      refine cell (by simp [isAggT, hu]) ?_ rfl
      cases v <;> simp_all [Cell.okWide, Cell.ok, Value.cells]
    · rename_i e hu
      simp only [hu] at hval h1
      obtain ⟨b, rfl, _⟩ := h1
      refine cell (by simp [isAggT, hu]) ?_ rfl
      cases v <;> simp_all [Cell.okWide, Cell.ok, Value.cells]
    · rename_i fs hu
      simp only [hu] at hval
      obtain ⟨cs, rfl, _⟩ := hval
      unfold argOf
      rw [show isAggT P t = true by simp [isAggT, hu], cond_true]
      have h2 : RepL w (sizes w) ds cs.toList := h2
      refine .agg (by simpa using h2.1) fun i c v hc hv => ?_
      rw [List.getElem?_map, Option.map_eq_some_iff] at hc
      obtain ⟨d, hd, rfl⟩ := hc
      exact ⟨h2.2 i d v hd (by simpa using hv), rfl⟩
    · cases hone
theorem same_below {w' : World} (hB : Below w.heap.size w w') {p : MemPlace} (h : p.block < w.heap.size) : w.sameAt w' p := by
  cases p with
  | cell b off =>
    show w'.cell? ⟨b, off, none⟩ = w.cell? ⟨b, off, none⟩
    unfold World.cell?
    rw [hB.block b h]
  | map b => exact hB.block b h
theorem trodAll_below {w' : World} (K : Kids P (· < P.types.size)) (hz : ∀ t e, t < P.types.size → P.underlying t = some (.slice e) → 0 < P.cellsOf e) (hB : Below w.heap.size w w') {sp : Nat → Bool} :
    ∀ {ts : List TypeId} {vs : List Value} {ds : List (DataW H)} {ps : List MemPlace}, (∀ t ∈ ts, t < P.types.size) → DataW.TrodAll enc P w base (fun _ => true) true ts vs ds ps → (∀ p ∈ ps, sp p.block = true) → (∀ p ∈ ps, p.block < w.heap.size) → DataW.TrodAll enc P w' base sp true ts vs ds ps
  | [], [], [], _, _, h, _, _ => h
  | _ :: _, _ :: _, _ :: _, _, hT, ⟨p, q, ⟨n, h1⟩, h2, e⟩, hs, hlt => by
    subst e
    refine ⟨p, q, DataW.Trod.respare K hz (hT _ (by simp)) ⟨n, DataW.trod_carry n _ _ _ h1 fun x hx => same_below hB (hlt x (by simp [hx]))⟩ (fun x hx => hs x (by simp [hx])), ?_, rfl⟩
    exact trodAll_below K hz hB (fun t ht => hT t (by simp [ht])) h2 (fun x hx => hs x (by simp [hx])) (fun x hx => hlt x (by simp [hx]))
theorem contract_true {C : Cfg} (hC : CfgOk C) (hp : ∀ f F, C.prim f = some F → CallAt C f F) (K : Kids C.P (· < C.P.types.size)) (hz : ∀ t e, t < C.P.types.size → C.P.underlying t = some (.slice e) → 0 < C.P.cellsOf e)
    {f : FuncId} {fn : Func} {s : ChangeSpec} {tb : TypeId} {W : World} {vs : Array Value} {ds gs : List (DataW H)} {before : List MemPlace} {avs : List AVal}
    (hW : DataW.Whole enc C.P fn.params.toList s.vars false W vs.toList ds gs before) (hv : s.vars = []) (hT : ∀ t ∈ fn.params.toList, t < C.P.types.size)
    (hs : s.fn H (ds ++ gs) = { results := [.lit (.bool true)], args := ds, vars := [] }) (hrt : fn.resultTypes = #[tb]) (hb : C.P.underlying tb = some .bool)
    (ho : C.ownArg f = none) (h : callL C f avs [] = some ([(.dat (.bool true), .none)], [])) (hl : avs.length = vs.size) (hr : ∀ (i : Nat) x v, avs[i]? = some x → vs[i]? = some v → RepB W (sizes W) [] x v) (hg : GlobOk C W (sizes W)) :
    Calls C.P f vs W fun e W' => ∃ v, e = .returned v ∧ s.post enc C.P fn false true false false W vs v W' := by
  have hlt := fun p hp => hW.lt p hp
  obtain ⟨p, q, hA, hV, hpq, _, _⟩ := id hW
  rw [hv] at hV
  have hgs : gs = [] ∧ q = [] := trodVars_none hV
  obtain ⟨rfl, rfl⟩ := hgs
  rw [List.append_nil] at hpq
  subst hpq
  refine (calls_bool hC hp ho h hl hr hg).mono fun e W' ⟨he, hB⟩ => ?_
  subst he
  refine ⟨_, rfl, post_of_below (pa := before) (pv := []) hW hB (fun b sp hd => ?_) (fun sp hsp => ?_) (fun sp hsp => ?_) (by simp) ?_⟩
  · rw [hs, hrt]
    exact trodAll_cons_mk (shut_bool hb _) trodAll_mk0
  · rw [hs]
    exact trodAll_below K hz hB hT hA hsp hlt
  · rw [hs, hv]
    exact rfl
  · exact ok_one hrt rfl (okWide_bool_mk hb _)
end
end Go.Aev

end
section
/- Plain laws for what the printed functions are made of. -/
namespace Go.Aev
def mk (l : List UInt8) : ByteArray := ⟨l.toArray⟩
theorem mk_data (b : ByteArray) : mk b.data.toList = b := by cases b; simp [mk]
theorem exists_mk (b : ByteArray) : ∃ l, b = mk l := ⟨b.data.toList, (mk_data b).symm⟩
@[simp] theorem data_mk (l : List UInt8) : (mk l).data.toList = l := by simp [mk]
@[simp] theorem data_mk1 (l : List UInt8) : (mk l).data = l.toArray := rfl
@[simp] theorem size_mk (l : List UInt8) : (mk l).size = l.length := by simp [mk, ByteArray.size]
theorem data_inj {a b : ByteArray} (h : a.data.toList = b.data.toList) : a = b := by rw [← mk_data a, ← mk_data b, h]
@[simp] theorem mk_inj {a b : List UInt8} : mk a = mk b ↔ a = b := ⟨fun h => by have := congrArg (fun b : ByteArray => b.data.toList) h; simpa using this, fun h => by rw [h]⟩
@[simp] theorem mk_append (a b : List UInt8) : mk a ++ mk b = mk (a ++ b) := by
  apply data_inj
  simp [mk, ByteArray.data_append]
@[simp] theorem extract_mk (l : List UInt8) (i j : Nat) : (mk l).extract i j = mk ((l.take j).drop i) := by
  apply data_inj
  simp [mk, ByteArray.data_extract, List.drop_take]
theorem bs_mk (l : List Nat) : bs l = mk (l.map UInt8.ofNat) := rfl
theorem byteAt_mk {β : Type} (l : List UInt8) (i : Int) (F : UInt8 → Option β) : byteAt (mk l) i F = cond (decide (0 ≤ i)) (match l[i.toNat]? with
    | some b => F b
    | none => none) none := by
  unfold byteAt
  rw [data_mk]
  cases decide (0 ≤ i)
  · rfl
  · cases l[i.toNat]? <;> rfl
theorem byteAt_some {β : Type} {l : List UInt8} {i : Nat} {b : UInt8} (h : l[i]? = some b) (F : UInt8 → Option β) : byteAt (mk l) (i : Int) F = F b := by
  rw [byteAt_mk]
  simp [h]
theorem elemAt_some {β : Type} {es : List (List Dat)} {i : Nat} {e : List Dat} (h : es[i]? = some e) (F : List Dat → Option β) : elemAt es (i : Int) F = F e := by
  unfold elemAt
  simp [h]
theorem wrap_i64 {n : Int} (h : -9223372036854775808 ≤ n ∧ n ≤ 9223372036854775807) : IntKind.wrap .i64 n = n := by
  rw [IntKind.wrap_i64]
  omega
end Go.Aev

end
section
/- strings.Builder's methods, at any program, as the evaluator sees them. -/
set_option linter.unusedVariables false
namespace Go.Aev
open Go.Proofs Go.Shelf Go.RowKit
section
variable {P : Program} (w : World)
theorem append_own_sharp (t ty e : TypeId) (i : TypeInfo) (z : Value) (size bytes : Nat) (ht : P.underlying t = some (.slice e)) (hi : P.info? e = some i) (hz : i.zero = some z)
    (hsize : i.size = size) (hby : i.bytes = bytes) (hzs : z.cells.size = size) (hsz : 0 < size)
    (v : Value) (n : Nat) (xs : List Value) (hown : w.ownsRowF 0 e size v n xs)
    (a : Addr) (m c : Nat) (news : List Value) (hl : news.length = m * size) (hnews : ∀ j u, news[j]? = some u → w.cell? (a.add j) = some u) (h1 : ∀ u ∈ news, u.oneCell' = true)
    (h63 : n + m ≤ maxLen) (hbytes : (n + m) * bytes ≤ 140737488355328) :
    ∃ v' w', (Builtin.append_ #[t, t] ty #[v, .slice (some a) m c]).run P w = .ok v' w' ∧ w'.ownsRowF 0 e size v' (n + m) (xs ++ news) ∧ w.grownBy w' v.ownBlock ∧
      (v' = .slice none 0 0 ↔ v = .slice none 0 0 ∧ m = 0) ∧ ∀ k, v'.ownBlock = some k → v.ownBlock = some k ∨ w.heap.size ≤ k := by
  obtain ⟨v', w', r1, r2, r3, r4⟩ := run_append_ownF (P := P) w 0 t ty e i z size bytes ht hi hz hsize hby hzs hsz v n xs hown a m c news hl hnews h1 h63 hbytes (Nat.zero_le _)
  refine ⟨v', w', r1, r2, r3, r4, fun k hk => ?_⟩
  rcases hown.2 with ⟨rfl, rfl⟩ | ⟨g, cap, cur, fz, rfl, hbg, hg, hfz, hnc, hcm, hcs, htake⟩
  · obtain ⟨v'', w'', q1, q2, _⟩ := run_append_ownF (P := P) w w.heap.size t ty e i z size bytes ht hi hz hsize hby hzs hsz (.slice none 0 0) 0 xs ⟨hown.1, .inl ⟨rfl, rfl⟩⟩ a m c news hl hnews h1 h63 hbytes (Nat.le_refl _)
    rw [r1] at q1
    cases q1
    exact .inr (q2.lt k hk).1
  · subst hsize
    subst hby
    have hsmall : n + m ≤ 9223372036854775807 := by simp only [maxLen] at h63; omega
    by_cases hroom : n + m ≤ cap
    · have hfit : n * i.size + news.length ≤ cur.size := by rw [hl, hcs, ← Nat.add_mul]; exact Nat.mul_le_mul_right _ hroom
      have hr := run_append_roomF (P := P) w t ty e i ht hi g n cap cur fz hg hfz a m c news hl hnews h1 hroom hfit
      rw [r1] at hr
      cases hr
      exact .inl hk
    · have holds : ∀ j u, xs[j]? = some u → w.cell? ((⟨g, 0, none⟩ : Addr).add j) = some u := hown.cells (g := g) rfl
      have hr := run_append_grow (P := P) w t ty e i z ht hi hz ⟨g, 0, none⟩ n cap xs hown.1 holds a m c news hl hnews (by omega) (by omega) (growslice_fits (by omega) hbytes)
      rw [r1] at hr
      cases hr
      cases hk
      exact .inr (Nat.le_refl _)
end
structure BStep (T e : TypeId) (b : Nat) (v : Value) (w w' : World) (bs' : List Value) : Prop where
  os : w'.os = w.os
  tape : w'.tape = w.tape
  output : w'.output = w.output
  size : w.heap.size ≤ w'.heap.size
  block : ∀ k, k < w.heap.size → k ≠ b → some k ≠ v.ownBlock → w'.heap[k]? = w.heap[k]?
  res : ∃ p' v', (p' = .pointer none ∨ p' = .pointer (some ⟨b, 0, none⟩)) ∧ w'.heap[b]? = some (.cells #[p', v'] T (0, 0)) ∧ w'.ownsRowF 0 e 1 v' bs'.length bs' ∧ (bs' = [] → v' = .slice none 0 0) ∧
    ∀ k, v'.ownBlock = some k → k ≠ b ∧ (v.ownBlock = some k ∨ w.heap.size ≤ k)
structure BAt (T e : TypeId) (b : Nat) (p v : Value) (w : World) (bs : List Value) : Prop where
  addr : p = .pointer none ∨ p = .pointer (some ⟨b, 0, none⟩)
  heap : w.heap[b]? = some (.cells #[p, v] T (0, 0))
  own : w.ownsRowF 0 e 1 v bs.length bs
  nil : bs = [] → v = .slice none 0 0
  ne : v.ownBlock ≠ some b
section
variable {P : Program} {ρ : Ren}
end
section
variable {C : Cfg} {f : FuncId}
end
end Go.Aev

end
section
/- Functions of Go's library at any program: what their contracts make of them here. -/
namespace Go.Aev
open Go.RowKit
section
variable {C : Cfg} {f : FuncId}
theorem rep_str {w : World} {M : Nat → Nat} {sm : List Nat} {s : ByteArray} {v : Value} (h : RepB w M sm (.dat (.str s)) v) : v = .string s := by
  cases h with | dat h => cases h; rfl
theorem addr_add (b o k : Nat) : Addr.add ⟨b, o, none⟩ k = ⟨b, o + k, none⟩ := by
  unfold Addr.add
  split
  · rename_i h; subst h; rfl
  · rfl
def hasPrefA (args : List AVal) (sg : Sig) : Option (List Ent × Sig) :=
  match args, sg with
  | [.dat (.str s), .dat (.str p)], [] => some ([(.dat (.bool (Lib.hasPrefix s.data.toList p.data.toList)), .none)], [])
  | _, _ => none
theorem hasPrefA_ok (hd : C.dr = false) (hc : ∀ s p w, Calls C.P f #[.string s, .string p] w fun e w' => e = .returned (.bool (Lib.hasPrefix s.data.toList p.data.toList)) ∧ w' = w) : CallAt C f hasPrefA := by
  refine callAt_one hd (fun args sg rs sg' h => ?_) fun args sg rs sg' h w M vs hl hr hg => ?_
  · unfold hasPrefA at h
    split at h
    · rfl
    · cases h
  · unfold hasPrefA at h
    split at h
    · rename_i s p
      cases h
      refine ⟨rfl, _, rfl, ?_⟩
      obtain ⟨l⟩ := vs
      match l, hl with
      | [v0, v1], _ =>
        obtain rfl := rep_str (hr 0 _ v0 rfl rfl)
        obtain rfl := rep_str (hr 1 _ v1 rfl rfl)
        refine (hc s p w).mono fun e w' hq => ?_
        obtain ⟨he, rfl⟩ := hq
        exact ⟨_, he, .refl _ w', .bool _⟩
    · cases h
def splitA (args : List AVal) (sg : Sig) : Option (List Ent × Sig) :=
  match args, sg with
  | [.dat (.str s), .dat (.str sep)], [] =>
    cond (decide (s.size < 4294967281) && decide (1 ≤ sep.size) && decide (Lib.countB s sep + 1 ≤ maxLen) && decide ((Lib.splitB sep 0 (Lib.countB s sep) s).length = Lib.countB s sep + 1))
      (some ([(.dat (.sl ((Lib.splitB sep 0 (Lib.countB s sep) s).map fun x => [.str x])), .none)], [])) none
  | _, _ => none
theorem splitA_ok {T : TypeId} (hd : C.dr = false) (hc : ∀ s sep w M, GlobOk C w M → s.size < 4294967281 → 1 ≤ sep.size →
    Calls C.P f #[.string s, .string sep] w fun e w' => e = .returned (.slice (some ⟨w.heap.size, 0, none⟩) (Lib.countB s sep + 1) (Lib.countB s sep + 1)) ∧ w' = w.alloc (.cells ((Lib.splitB sep 0 (Lib.countB s sep) s).map Value.string).toArray T)) : CallAt C f splitA := by
  intro args sg rs sg' h w M sm vs hl hr hs hg
  unfold splitA at h
  split at h
  · rename_i s sep
    have hsm : sm = [] := List.eq_nil_of_length_eq_zero hs.1.symm
    subst hsm
    obtain ⟨h1, h2⟩ := cond_any h
    simp only [Bool.and_eq_true, decide_eq_true_eq] at h1
    cases h2
    obtain ⟨⟨⟨g1, g2⟩, g3⟩, g4⟩ := h1
    obtain ⟨l⟩ := vs
    match l, hl with
    | [v0, v1], _ =>
      obtain rfl := rep_str (hr 0 _ v0 rfl rfl)
      obtain rfl := rep_str (hr 1 _ v1 rfl rfl)
      refine (hc s sep w M hg g1 g2).mono fun e w' hq => ?_
      obtain ⟨he, rfl⟩ := hq
      generalize hxs : Lib.splitB sep 0 (Lib.countB s sep) s = xs at g4
      rw [← g4] at he g3
      refine ⟨_, fun b => if b = w.heap.size then xs.length else M b, [], he, ?_, sigOk_nil _ _ _, [_], rfl, rfl, fun i e u he hu => ?_, fun i j e e' t t' n n' he he' h h' => ?_⟩
      · refine ⟨rfl, rfl, .refl C w, by show w.heap.size ≤ (w.heap.push _).size; simp, fun b hb _ => ?_, fun b hb => ?_, ⟨[], rfl, fun b hb => by cases hb⟩, fun i b k h => by simp at h⟩
        · exact heap_alloc_old w _ b hb
        · simp [Nat.ne_of_lt hb]
      · cases i with
        | zero =>
          simp only [List.getElem?_cons_zero, Option.some.injEq] at he hu
          subst he hu
          refine ⟨.dat (.sl (size := 1) (fun k => .string (xs.getD k ⟨#[]⟩)) (by simp) (Nat.le_refl _) g3 (fun _ => rfl) (fun e he => ?_) (fun k hk => ?_) (fun i j e d he hd => ?_)), trivial⟩
          · obtain ⟨x, _, rfl⟩ := List.mem_map.1 he; rfl
          · simp only [Nat.mul_one] at hk
            refine ⟨?_, ?_⟩
            · rw [addr_add, Nat.zero_add, cell_alloc]
              simp [List.getD_eq_getElem?_getD, hk]
            · show 0 + k < (if (w.heap.size : Nat) = w.heap.size then xs.length else M w.heap.size)
              rw [if_pos rfl]; omega
          · rw [List.getElem?_map, Option.map_eq_some_iff] at he
            obtain ⟨x, hx, rfl⟩ := he
            cases j with
            | zero =>
              simp only [List.getElem?_cons_zero, Option.some.injEq] at hd
              subst hd
              simp only [Nat.mul_one, Nat.add_zero, List.getD_eq_getElem?_getD, hx, Option.getD_some]
              exact .str _
            | succ j => simp at hd
        | succ i => simp at he
      · cases i with
        | zero =>
          simp only [List.getElem?_cons_zero, Option.some.injEq] at he
          subst he
          cases h
        | succ i => simp at he
  · cases h
def Sp.strings_Split (s sep : ByteArray) (γ : Type) (K : List (List Dat) → Option γ) : Option γ :=
  cond (decide (s.size < 4294967281) && decide (1 ≤ sep.size) && decide (Lib.countB s sep + 1 ≤ maxLen) && decide ((Lib.splitB sep 0 (Lib.countB s sep) s).length = Lib.countB s sep + 1))
    (K ((Lib.splitB sep 0 (Lib.countB s sep) s).map fun x => [.str x])) none
abbrev Ty_strings_Split : Type 1 := ByteArray → ByteArray → (γ : Type) → (List (List Dat) → Option γ) → Option γ
def P_strings_Split (X : Ty_strings_Split) (F : Ent3) : Ent3 := fun a s γ K => match a, s with
  | [.dat (.str x), .dat (.str sep)], [] => X x sep γ fun r => K ([(.dat (.sl r), .none)], [])
  | a, s => F a s γ K
theorem E_strings_Split (hp : C.prim f = some splitA) {F : Ent3} (hF : EntOk C f F) : EntOk C f (P_strings_Split Sp.strings_Split F) := by
  intro a s γ K q h
  unfold P_strings_Split at h
  split at h
  · rename_i x sep
    refine ent_prim (S := fun a s γ K => (splitA a s).bind K) (F := splitA) hp (fun a s γ K q h => h) _ _ γ K q ?_
    unfold Sp.strings_Split at h
    obtain ⟨h1, h2⟩ := cond_any h
    simp only [splitA, h1, cond_true]
    exact h2
  · exact hF _ _ _ _ _ h
end
end Go.Aev

end
section
/- slices.Clone and slices.Grow of no slice, at any program, as the evaluator sees them. -/
set_option linter.unusedVariables false
namespace Go.Aev
open Go.Proofs Go.Shelf Go.RowKit
section
variable {P : Program} {ρ : Ren}
end
theorem own_out {C : Cfg} (hd : C.dr = false) {w w' : World} {M : Nat → Nat} {es : List (List Dat)} {size : Nat} {T : TypeId} {o : Own} (ho : o = .none ∨ o = .id 0 size) (hsz' : ∀ e ∈ es, e.length = size) {news : List Value}
    (hrep : ∀ (i j : Nat) e d, es[i]? = some e → e[j]? = some d → ∀ u, news[i * size + j]? = some u → Rep w M d u) {v' : Value} (hown : w'.ownsRow w.heap.size T size v' es.length news) (hbw : Below w.heap.size w w') :
    ∃ v M' sm', Ending.returned v' = Ending.returned v ∧ After C w w' M M' [] sm' ∧ SigOk C w' M' sm' [] ∧ RepRes w' M' sm' w.heap.size [(AVal.dat (.sl es), o)] v := by
  let M' : Nat → Nat := fun k => if w.heap.size ≤ k then es.length * size else M k
  have hM : ∀ k, k < w.heap.size → M' k = M k := fun k hk => if_neg (by omega)
  have hkeep : Keeps w w' M M' := keeps_of fun b hb _ => ⟨hbw.block b hb, by rw [hM b hb]; exact Nat.le_refl _⟩
  refine ⟨v', M', [], rfl, ⟨hbw.os, hbw.tape, ⟨hbw.output, fun e => by rw [hd] at e; cases e⟩, hbw.size, fun b hb _ => hbw.block b hb, fun b hb => hM b hb, ⟨[], rfl, fun b hb => by cases hb⟩, fun i b k h => by simp at h⟩, sigOk_nil C w' M', [v'], rfl, rfl, fun i e u he hu => ?_, fun i j e e' t t' n n' he he' h h' => ?_⟩
  · match i, he, hu with
    | 0, he, hu =>
      cases he; cases hu
      refine ⟨.dat ?_, ?_⟩
      · rcases hown.2 with ⟨rfl, h0⟩ | ⟨g, cap, cur, rfl, hg0, hg1, hnc, hcm, hcs, htake⟩
        · have : es = [] := List.eq_nil_of_length_eq_zero h0
          subst this
          exact .nilS
        · have hget : ∀ k, k < es.length * size → ∃ u, news[k]? = some u ∧ cur[k]? = some u := by
            intro k hk
            have hkl : k < news.length := by rw [hown.1]; exact hk
            refine ⟨news[k], List.getElem?_eq_getElem hkl, ?_⟩
            have : news[k]? = cur.toList[k]? := by rw [← htake, List.getElem?_take, if_pos hk]
            rw [← Array.getElem?_toList, ← this]
            exact List.getElem?_eq_getElem hkl
          refine .sl (size := size) (fun k => (news[k]?).getD undef) rfl hnc hcm (fun _ => rfl) hsz' (fun k hk => ?_) fun i j e d he hd => ?_
          · obtain ⟨u, h1, h2⟩ := hget k hk
            refine ⟨?_, ?_⟩
            · rw [show (Addr.add ⟨g, 0, none⟩ k) = ⟨g, k, none⟩ by rw [add_eq rfl, Nat.zero_add], cell_of_row w' g k cur _ _ hg1, h2, h1]
              rfl
            · show 0 + k < M' g
              rw [show M' g = es.length * size from if_pos hg0]; omega
          · have hi : i < es.length := (List.getElem?_eq_some_iff.1 he).1
            have hj : j < size := by
              have := (List.getElem?_eq_some_iff.1 hd).1
              rw [hsz' e (List.mem_of_getElem? he)] at this; exact this
            have hk : i * size + j < es.length * size := by
              have : (i + 1) * size ≤ es.length * size := Nat.mul_le_mul_right _ hi
              rw [Nat.add_mul] at this
              omega
            obtain ⟨u, h1, _⟩ := hget _ hk
            rw [h1]
            exact (hrep i j e d he hd u h1).mono hkeep
      · rcases ho with rfl | rfl
        · trivial
        rcases hown.2 with ⟨rfl, h0⟩ | ⟨g, cap, cur, rfl, hg0, hg1, hnc, hcm, hcs, htake⟩
        · exact .inl ⟨none, 0, rfl⟩
        · exact .inr ⟨g, es.length, cap, cur, _, rfl, hg1, hnc, hcm, hcs, if_pos hg0, hg0, by simp⟩
    | i + 1, he, _ => simp at he
  · have key : ∀ {i : Nat} {e : Ent}, [(AVal.dat (.sl es), o)][i]? = some e → i = 0 := by
      intro i e he
      cases i with
      | zero => rfl
      | succ i => simp at he
    rw [key he, key he']
end Go.Aev

end
section
/- slices.SortFunc on a copy of a slice, at any program, as the evaluator sees it. -/
set_option linter.unusedVariables false
namespace Go.Aev
open Go.Proofs Go.Shelf Go.RowKit Go.Sort
section
variable {α : Type}
structure OrdOk (ok : α → Prop) (c : α → α → Int) : Prop where
  irrefl : ∀ x, ok x → ¬ c x x < 0
  trans : ∀ x y z, ok x → ok y → ok z → c x y < 0 → c y z < 0 → c x z < 0
  ntrans : ∀ x y z, ok x → ok y → ok z → ¬ c x y < 0 → ¬ c y z < 0 → ¬ c x z < 0
  anti : ∀ x y, ok x → ok y → ¬ c x y < 0 → ¬ c y x < 0 → x = y
end
theorem GlobOk.mono {C : Cfg} {w w' : World} {M M' : Nat → Nat} (h : GlobOk C w M) (hk : ∀ b, b < w.heap.size → w'.heap[b]? = w.heap[b]? ∧ M' b = M b) : GlobOk C w' M' := by
  have hkeep : Keeps w w' M M' := keeps_of fun b hb _ => ⟨(hk b hb).1, by rw [(hk b hb).2]; exact Nat.le_refl _⟩
  refine ⟨fun i cells hc => (h.glob i cells hc).mono hkeep fun _ _ h => h, fun i o ho => ?_⟩
  obtain ⟨h1, h2⟩ := h.low i o ho
  obtain ⟨h3, h4⟩ := hk i (lt_of_heap h1)
  exact ⟨by rw [h3]; exact h1, by omega⟩
section
variable {α : Type} [Inhabited α]
theorem sortWorld_other (enc : α → Value) (w : World) (blk off m : Nat) (dk : Array α) (os : Array Obj) {k : Nat} (hk : k < w.heap.size) (hne : k ≠ blk) : (sortWorld enc w blk off m dk os).heap[k]? = w.heap[k]? := by
  show ((w.heap.modify blk _) ++ os)[k]? = _
  rw [Array.getElem?_append_left (by simpa using hk), Array.getElem?_modify, if_neg (fun e => hne e.symm)]
theorem sortWorld_row (enc : α → Value) (w : World) (blk off m : Nat) (dk : Array α) (os : Array Obj) {cur : Array Value} {T : TypeId} {fz : Nat × Nat} (h : w.heap[blk]? = some (.cells cur T fz)) :
    (sortWorld enc w blk off m dk os).heap[blk]? = some (.cells (putCells enc off dk cur) T fz) := by
  have hk := lt_of_heap h
  show ((w.heap.modify blk _) ++ os)[blk]? = _
  rw [Array.getElem?_append_left (by simpa using hk), Array.getElem?_modify, if_pos rfl, h]
  rfl
theorem sortWorld_facts (enc : α → Value) (w : World) (blk off m : Nat) (dk : Array α) (os : Array Obj) : (sortWorld enc w blk off m dk os).os = w.os ∧ (sortWorld enc w blk off m dk os).tape = w.tape ∧
    (sortWorld enc w blk off m dk os).output = w.output ∧ w.heap.size ≤ (sortWorld enc w blk off m dk os).heap.size := by
  refine ⟨rfl, rfl, rfl, ?_⟩
  show _ ≤ ((w.heap.modify blk _) ++ os).size
  simp
end
end Go.Aev

end
section
/- Values and rows, as the laws speak of them: how they stand. -/
set_option linter.unusedVariables false
set_option linter.unusedSimpArgs false
namespace Go.Aev
namespace V
def ok (k n : Int) (s : ByteArray) : Bool :=
  (decide (k = 0) && decide (n = 0) && decide (s = bs [])) || (decide (k = 1) && (decide (n = 0) || decide (n = 1)) && decide (s = bs [])) ||
  (decide (k = 2) && decide (-9007199254740991 ≤ n) && decide (n ≤ 9007199254740991) && decide (s = bs [])) || (decide (k = 3) && decide (n = 0) && decide ((s.size : Int) ≤ 64))
def cs (a b : ByteArray) : Int := if a.data.toList < b.data.toList then -1 else if a = b then 0 else 1
def ci (a b : Int) : Int := if a < b then -1 else if b < a then 1 else 0
def known (k n : Int) (s : ByteArray) (k' n' : Int) (s' : ByteArray) : Bool := !decide (k = 0) && !decide (k' = 0) && ok k n s && ok k' n' s'
def truth (b : Bool) : Int := cond b 1 0
def same (k n : Int) (s : ByteArray) (k' n' : Int) (s' : ByteArray) : Bool := decide (k = k') && (decide (n = n') && (decide (s = s') && true))
def equal (k n : Int) (s : ByteArray) (k' n' : Int) (s' : ByteArray) : Int := cond (known k n s k' n' s') (truth (same k n s k' n' s')) 2
end V
structure Vl where
  k : Int
  n : Int
  s : ByteArray
deriving DecidableEq
namespace Vl
def enc (v : Vl) : List Dat := [.int .i64 v.k, .int .i64 v.n, .str v.s]
def ok (v : Vl) : Bool := V.ok v.k v.n v.s
end Vl
namespace R
def enc (l : List Vl) : Dat := .sl (l.map Vl.enc)
def OkD (d : Dat) : Prop := ∃ l : List Vl, l.length ≤ 16777216 ∧ d = enc l
end R
end Go.Aev

end
