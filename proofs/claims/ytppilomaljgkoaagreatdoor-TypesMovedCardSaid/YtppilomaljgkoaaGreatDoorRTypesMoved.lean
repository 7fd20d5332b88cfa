/- TypesMoved: the law's statement, and the card: for every input the call answers true and leaves its arguments alone. -/
import Derived.Test.YtppilomaljgkoaaGreatDoorKV
import Derived.Test.YtppilomaljgkoaaGreatDoorKP2
import Derived.Test.YtppilomaljgkoaaGreatDoorKG
import Derived.Test.YtppilomaljgkoaaGreatDoorCards
import Derived.Test.YtppilomaljgkoaaGreatDoorTie
set_option linter.unusedVariables false
set_option linter.unusedSimpArgs false
set_option maxRecDepth 100000
namespace Go.Proofs.YtppilomaljgkoaaGreatDoor
open Go.ChangeShapes Go.WideShapes Go.ChangeAt Go.RowKit Go.Aev
namespace TypesMoved
theorem call (p : Par) (h0_ : Hd) (k0_ : Fo) (c1_ : List Co) (n2_ : Int)  : callL (cfg p) 7 [.agg [(.int .i64 h0_.k, .none), (.int .i64 h0_.n, .none), (.int .i64 h0_.vk, .none), (.int .i64 h0_.vn, .none), (.str (mk h0_.vs), .none), (.str (mk h0_.tab), .none), (.str (mk h0_.col), .none), (.sl k0_.enc, .none)], .dat (.sl (c1_.map encC)), .dat (.int .i64 n2_)] [] = some ([(.dat (.bool true), .none)], []) := by
  have h0 : ∀ X : Ty_law14_TypesMoved, P_law14_TypesMoved X none3 [.agg [(.int .i64 h0_.k, .none), (.int .i64 h0_.n, .none), (.int .i64 h0_.vk, .none), (.int .i64 h0_.vn, .none), (.str (mk h0_.vs), .none), (.str (mk h0_.tab), .none), (.str (mk h0_.col), .none), (.sl k0_.enc, .none)], .dat (.sl (c1_.map encC)), .dat (.int .i64 n2_)] [] (List Ent × Sig) some = X h0_.k h0_.n h0_.vk h0_.vn (mk h0_.vs) (mk h0_.tab) (mk h0_.col) k0_.enc (c1_.map encC) n2_ (List Ent × Sig) (fun r0 => some ([(.dat (.bool r0), .none)], [])) := fun X => by kernel_rfl
  obtain ⟨r, h1, h2⟩ := E_law14_TypesMoved p (ent_none _ _) _ _ _ _ _ ((h0 Sp.law14_TypesMoved).trans (law_Moved h0_ k0_ c1_ n2_ _ _))
  cases h2
  exact h1
theorem own : ownKnob Tryz.prog.godebug = none := by kernel_rfl
theorem contract (H : Type) (enc : TypeId × Value → H) (W : World) (base : Nat) (args : Array Value) (ds gs : List (DataW H)) (before : List MemPlace)
    (hval : ∀ (j : Nat) t v, Tryz.f7.params[j]? = some t → args[j]? = some v → Value.okWide Tryz.prog W .any base t v)
    (hW : DataW.Whole enc Tryz.prog Tryz.f7.params.toList Rows.typesMovedSpec.vars false W args.toList ds gs before) (hL : laidMetH Tryz.prog Rows.typesMovedRow.laid W) (hS : W.ShapedOpen Tryz.prog) :
    Calls Tryz.prog 7 args W fun e W' => ∃ v, e = .returned v ∧ Rows.typesMovedSpec.post enc Tryz.prog Tryz.f7 false true false false W args v W' := by
  have hW' := hW
  obtain ⟨p, q, hA0, hV, rfl, hfz, hnd⟩ := hW
  have hA : DataW.TrodAll enc Tryz.prog W 0 (fun _ => true) true Tryz.f7.params.toList args.toList ds p := hA0
  rw [Tryz.params7] at hA hval
  obtain ⟨v0, vs0, d0, ds0, p0, q0, hargs0, rfl, rfl, h0, r0⟩ := trodAll_cons hA
  obtain ⟨v1, vs1, d1, ds1, p1, q1, hargs1, rfl, rfl, h1, r1⟩ := trodAll_cons r0
  obtain ⟨v2, vs2, d2, ds2, p2, q2, hargs2, rfl, rfl, h2, r2⟩ := trodAll_cons r1
  obtain ⟨rfl, rfl, rfl⟩ := trodAll_nil r2
  obtain rfl : args = #[v0, v1, v2] := by cases args; simp_all
  obtain ⟨rfl, rfl⟩ := trodVars_none hV
  obtain ⟨n0, x0, t0, k0⟩ := open_arg simples_ok (show 35 ∈ simples by decide) (hval 0 35 v0 rfl rfl) h0
  obtain ⟨h0_, k0_, rfl⟩ := has_expr t0
  obtain ⟨n1, x1, t1, k1⟩ := open_arg simples_ok (show 22 ∈ simples by decide) (hval 1 22 v1 rfl rfl) h1
  obtain ⟨c1_, rfl⟩ := has_cols t1
  obtain ⟨n2, x2, t2, k2⟩ := open_arg simples_ok (show 3 ∈ simples by decide) (hval 2 3 v2 rfl rfl) h2
  obtain ⟨n2_, rfl⟩ := has_num t2
  obtain ⟨p, hg⟩ := globs hL hS
  refine contract_true (cfg_ok p) (prim_ok p) kids fulls hW' rfl ?_ rfl (tb := 4) (by kernel_rfl) Tryz.underlying4 rfl (call p h0_ k0_ c1_ n2_) rfl ?_ hg
  · intro t ht
    rw [Tryz.params7] at ht
    have hall : ([35, 22, 3].all fun t => decide (t < Tryz.prog.types.size)) = true := by kernel_rfl
    have hm : t ∈ [35, 22, 3] := by simpa using ht
    have := List.all_eq_true.1 hall t hm
    exact of_decide_eq_true this
  · intro i x v hx hv
    match i with
    | 0 => cases hx; cases hv; exact k0
    | 1 => cases hx; cases hv; exact k1
    | 2 => cases hx; cases hv; exact k2
    | n + 3 => cases hx
def wargs : Array Value := #[.agg #[.int .i64 0, .int .i64 0, .int .i64 0, .int .i64 0, .string ⟨#[]⟩, .string ⟨#[]⟩, .string ⟨#[]⟩, .slice none 0 0], .slice none 0 0, .int .i64 0]
set_option maxRecDepth 100000 in
theorem laid_met (os : Os) : laidMetH Tryz.prog Rows.typesMovedRow.laid ((laidWorld os).forCall (fun _ _ => 0) ⟨#[], wargs, []⟩).memory :=
  laidMetH_of_parts (laidMet_of_run' 8 (by kernel_rfl) (by kernel_rfl)) (by kernel_rfl)
theorem reads (os : Os) {H : Type} (enc : TypeId × Value → H) : ∃ places, DataW.whole enc Tryz.prog ((laidWorld os).forCall (fun _ _ => 0) ⟨#[], wargs, []⟩).memory Tryz.f7.params.toList Rows.typesMovedSpec.vars false wargs.toList 8 = some ([.agg [.lit (.int .i64 0), .lit (.int .i64 0), .agg [.lit (.int .i64 0), .lit (.int .i64 0), .lit (.string [])], .lit (.string []), .lit (.string []), .nil], .nil, .lit (.int .i64 0)], [], places) :=
  ⟨[], by kernel_rfl⟩
set_option maxRecDepth 100000 in
theorem lifted (os : Os) (started : os.Started) (H : Type) (enc : TypeId × Value → H) (F : Stop.Interp) :
    ReturnsInHanded {} Tryz.checked os 7 .any ((OpenSpec.ofChange Rows.typesMovedSpec).preRow enc Tryz.prog Tryz.f7 Rows.typesMovedRow.domain false Rows.typesMovedRow.laid) (((OpenSpec.ofChange Rows.typesMovedSpec).at F).post enc Tryz.prog Tryz.f7 false true false false) := by
  obtain ⟨places, hx⟩ := reads os enc
  refine returnsInHanded_of_row (C := Tryz.checked) (s := OpenSpec.ofChange Rows.typesMovedSpec) own started (by kernel_rfl) Tryz.func7
    (witness_row_at (enc := enc) (C := Tryz.checked) false (laidWorld os) wargs rfl (by kernel_rfl) (by kernel_rfl) (by kernel_rfl)
      (OpenSpec.preRow_of_cond 8 hx (by kernel_rfl) (fun k hk => by cases hk) (by kernel_rfl) (laid_met os))) ?_
  intro W base args ds gs before hval hW _ _ _ hL hS _
  exact contract H enc W base args ds gs before hval hW hL hS
theorem said : Rows.TypesMovedSaid :=
  OpenClaim.holds_of_cond 7 Tryz.f7 rfl rfl rfl rfl rfl rfl rfl ⟨rfl, rfl, rfl, rfl, rfl⟩ rfl rfl rfl rfl rfl (by kernel_rfl) Tryz.func7 (by kernel_rfl)
    (of_decide_eq_true (by kernel_rfl)) (by unfold Func.isWrapper; first | (rw [if_pos (by decide +kernel)]; kernel_rfl) | (rw [if_neg (by decide +kernel)]; exact ⟨rfl, rfl⟩))
    (fun os started H enc _ F => by rw [OpenClaim.pre_eq_preRow]; exact lifted os started H enc F)
theorem plain (f : FuncId) (fn : Func) (hf : Tryz.pinned.checked.prog.funcNamed "commissary/commissarylaw14.TypesMoved" = some f) (hfn : Tryz.pinned.checked.prog.funcs[f]? = some fn) :
    true = Tryz.pinned.checked.prog.looks [] ∧ ∀ (j : Nat) t, fn.params[j]? = some t → Tryz.pinned.checked.prog.wantsStandIn t = false := by
  obtain rfl : f = 7 := Option.some.inj ((show Tryz.prog.funcNamed "commissary/commissarylaw14.TypesMoved" = some 7 by kernel_rfl).symm.trans hf) |>.symm
  obtain rfl : fn = Tryz.f7 := (Option.some.inj (Tryz.func7.symm.trans hfn)).symm
  refine ⟨by kernel_rfl, fun j t ht => ?_⟩
  rw [Tryz.params7] at ht
  have hall : ([35, 22, 3].all fun t => !Tryz.prog.wantsStandIn t) = true := by kernel_rfl
  have hm : t ∈ [35, 22, 3] := by simpa using Array.mem_of_getElem? ht
  have := List.all_eq_true.1 hall t hm
  simp only [Bool.not_eq_true'] at this
  exact this
theorem card : Rows.TypesMovedCardSaid :=
  Claim7.holds_tied_plain_at .later [] _ _ _ _ said (fun _ h => by cases h) (by kernel_rfl) (fun _ h => by cases h) typesMoved_row_tie rfl ⟨rfl, rfl⟩ (by kernel_rfl) rfl plain (by kernel_rfl)
end TypesMoved
end Go.Proofs.YtppilomaljgkoaaGreatDoor
