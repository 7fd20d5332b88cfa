/- CatalogOrders: the law's statement, and the card: for every input the call answers true and leaves its arguments alone. -/
import Derived.Test.YtimdilbcijgadaaGreatDoorPJ
import Derived.Test.YtimdilbcijgadaaGreatDoorKL
import Derived.Test.YtimdilbcijgadaaGreatDoorKG
import Derived.Test.YtimdilbcijgadaaGreatDoorCards
import Derived.Test.YtimdilbcijgadaaGreatDoorTie
set_option linter.unusedVariables false
set_option linter.unusedSimpArgs false
set_option maxRecDepth 100000
namespace Go.Proofs.YtimdilbcijgadaaGreatDoor
open Go.ChangeShapes Go.WideShapes Go.ChangeAt Go.RowKit Go.Aev
namespace CatalogOrders
theorem call (p : Par) (t0_ : Tb) (n1_ : Int) (ht0_ : t0_.Named) : callL (cfg p) 6 [.agg [(.str (mk t0_.name), .none), (.sl (t0_.cols.map encC), .none), (.sl (t0_.rows.map lEnc), .none)], .dat (.int .i64 n1_)] [] = some ([(.dat (.bool true), .none)], []) := by
  have h0 : ∀ X : Ty_law13_CatalogOrders, P_law13_CatalogOrders X none3 [.agg [(.str (mk t0_.name), .none), (.sl (t0_.cols.map encC), .none), (.sl (t0_.rows.map lEnc), .none)], .dat (.int .i64 n1_)] [] (List Ent × Sig) some = X (mk t0_.name) (t0_.cols.map encC) (t0_.rows.map lEnc) n1_ (List Ent × Sig) (fun r0 => some ([(.dat (.bool r0), .none)], [])) := fun X => by kernel_rfl
  obtain ⟨r, h1, h2⟩ := E_law13_CatalogOrders p (ent_none _ _) _ _ _ _ _ ((h0 Sp.law13_CatalogOrders).trans (law_Orders lives_eq t0_ ht0_ n1_ _ _))
  cases h2
  exact h1
theorem own : ownKnob Tryz.prog.godebug = none := by kernel_rfl
theorem contract (H : Type) (enc : TypeId × Value → H) (W : World) (base : Nat) (args : Array Value) (ds gs : List (DataW H)) (before : List MemPlace)
    (hval : ∀ (j : Nat) t v, Tryz.f6.params[j]? = some t → args[j]? = some v → Value.okWide Tryz.prog W .any base t v)
    (hW : DataW.Whole enc Tryz.prog Tryz.f6.params.toList Rows.catalogOrdersSpec.vars false W args.toList ds gs before) (hL : laidMetH Tryz.prog Rows.catalogOrdersRow.laid W) (hS : W.ShapedOpen Tryz.prog) :
    Calls Tryz.prog 6 args W fun e W' => ∃ v, e = .returned v ∧ Rows.catalogOrdersSpec.post enc Tryz.prog Tryz.f6 false true false false W args v W' := by
  have hW' := hW
  obtain ⟨p, q, hA0, hV, rfl, hfz, hnd⟩ := hW
  have hA : DataW.TrodAll enc Tryz.prog W 0 (fun _ => true) true Tryz.f6.params.toList args.toList ds p := hA0
  rw [Tryz.params6] at hA hval
  obtain ⟨v0, vs0, d0, ds0, p0, q0, hargs0, rfl, rfl, h0, r0⟩ := trodAll_cons hA
  obtain ⟨v1, vs1, d1, ds1, p1, q1, hargs1, rfl, rfl, h1, r1⟩ := trodAll_cons r0
  obtain ⟨rfl, rfl, rfl⟩ := trodAll_nil r1
  obtain rfl : args = #[v0, v1] := by cases args; simp_all
  obtain ⟨rfl, rfl⟩ := trodVars_none hV
  obtain ⟨n0, x0, t0, k0⟩ := open_arg simples_ok (show 29 ∈ simples by decide) (hval 0 29 v0 rfl rfl) h0
  obtain ⟨t0_, rfl, ht0_⟩ := has_tab t0
  obtain ⟨n1, x1, t1, k1⟩ := open_arg simples_ok (show 3 ∈ simples by decide) (hval 1 3 v1 rfl rfl) h1
  obtain ⟨n1_, rfl⟩ := has_int t1
  obtain ⟨p, hg⟩ := globs hL hS
  refine contract_true (cfg_ok p) (prim_ok p) kids fulls hW' rfl ?_ rfl (tb := 4) (by kernel_rfl) Tryz.underlying4 rfl (call p t0_ n1_ ht0_) rfl ?_ hg
  · intro t ht
    rw [Tryz.params6] at ht
    have hall : ([29, 3].all fun t => decide (t < Tryz.prog.types.size)) = true := by kernel_rfl
    have hm : t ∈ [29, 3] := by simpa using ht
    have := List.all_eq_true.1 hall t hm
    exact of_decide_eq_true this
  · intro i x v hx hv
    match i with
    | 0 => cases hx; cases hv; exact k0
    | 1 => cases hx; cases hv; exact k1
    | n + 2 => cases hx
def wargs : Array Value := #[.agg #[.string ⟨#[]⟩, .slice none 0 0, .slice none 0 0], .int .i64 0]
set_option maxRecDepth 100000 in
theorem laid_met (os : Os) : laidMet Tryz.prog Rows.catalogOrdersRow.laid ((laidWorld os).forCall (fun _ _ => 0) ⟨#[], wargs, []⟩).memory :=
  laidMet_of_run' 8 (by kernel_rfl) (by kernel_rfl)
theorem reads (os : Os) {H : Type} (enc : TypeId × Value → H) : ∃ places, DataW.whole enc Tryz.prog ((laidWorld os).forCall (fun _ _ => 0) ⟨#[], wargs, []⟩).memory Tryz.f6.params.toList Rows.catalogOrdersSpec.vars false wargs.toList 8 = some ([.agg [.lit (.string []), .nil, .nil], .lit (.int .i64 0)], [], places) :=
  ⟨[], by kernel_rfl⟩

set_option maxRecDepth 100000 in
theorem lifted (os : Os) (started : os.Started) (H : Type) (enc : TypeId × Value → H) (F : Stop.Interp) :
    ReturnsInHanded {} Tryz.checked os 6 .any ((OpenSpec.ofChange Rows.catalogOrdersSpec).preRow enc Tryz.prog Tryz.f6 Rows.catalogOrdersRow.domain false Rows.catalogOrdersRow.laid) (((OpenSpec.ofChange Rows.catalogOrdersSpec).at F).post enc Tryz.prog Tryz.f6 false true false false) := by
  obtain ⟨places, hx⟩ := reads os enc
  refine returnsInHanded_of_row (C := Tryz.checked) (s := OpenSpec.ofChange Rows.catalogOrdersSpec) own started (by kernel_rfl) Tryz.func6
    (witness_row_at (enc := enc) (C := Tryz.checked) false (laidWorld os) wargs rfl (by kernel_rfl) (by kernel_rfl) (by kernel_rfl)
      (OpenSpec.preRow_of_cond 8 hx (by kernel_rfl) (fun k hk => by cases hk) (by kernel_rfl) (laid_met os))) ?_
  intro W base args ds gs before hval hW _ _ _ hL hS _
  exact contract H enc W base args ds gs before hval hW hL hS

theorem said : Rows.CatalogOrdersSaid :=
  OpenClaim.holds_of_cond 6 Tryz.f6 rfl rfl rfl rfl rfl rfl rfl ⟨rfl, rfl, rfl, rfl, rfl⟩ rfl rfl rfl rfl rfl (by kernel_rfl) Tryz.func6 (by kernel_rfl)
    (of_decide_eq_true (by kernel_rfl)) (by unfold Func.isWrapper; first | (rw [if_pos (by decide +kernel)]; kernel_rfl) | (rw [if_neg (by decide +kernel)]; exact ⟨rfl, rfl⟩))
    (fun os started H enc _ F => by rw [OpenClaim.pre_eq_preRow]; exact lifted os started H enc F)

theorem plain (f : FuncId) (fn : Func) (hf : Tryz.pinned.checked.prog.funcNamed "commissary/commissarylaw13.CatalogOrders" = some f) (hfn : Tryz.pinned.checked.prog.funcs[f]? = some fn) :
    false = Tryz.pinned.checked.prog.looks [] ∧ ∀ (j : Nat) t, fn.params[j]? = some t → Tryz.pinned.checked.prog.wantsStandIn t = false := by
  obtain rfl : f = 6 := Option.some.inj ((show Tryz.prog.funcNamed "commissary/commissarylaw13.CatalogOrders" = some 6 by kernel_rfl).symm.trans hf) |>.symm
  obtain rfl : fn = Tryz.f6 := (Option.some.inj (Tryz.func6.symm.trans hfn)).symm
  refine ⟨by kernel_rfl, fun j t ht => ?_⟩
  rw [Tryz.params6] at ht
  have hall : ([29, 3].all fun t => !Tryz.prog.wantsStandIn t) = true := by kernel_rfl
  have hm : t ∈ [29, 3] := by simpa using Array.mem_of_getElem? ht
  have := List.all_eq_true.1 hall t hm
  simp only [Bool.not_eq_true'] at this
  exact this

theorem card : Rows.CatalogOrdersCardSaid :=
  Claim7.holds_tied_plain_at .later [] _ _ _ _ said (fun _ h => by cases h) (by kernel_rfl) (fun _ h => by cases h) catalogOrders_row_tie rfl ⟨rfl, rfl⟩ (by kernel_rfl) rfl plain (by kernel_rfl)
end CatalogOrders
end Go.Proofs.YtimdilbcijgadaaGreatDoor
