/- CalcSafe: the law's statement, and the card: for every input the call answers true and leaves its arguments alone. -/
import Derived.Test.YtebfhpjnbmdcoaaDoorKY
import Derived.Test.YtebfhpjnbmdcoaaDoorKG
import Derived.Test.YtebfhpjnbmdcoaaDoorCards
import Derived.Test.YtebfhpjnbmdcoaaDoorTie
set_option linter.unusedVariables false
set_option linter.unusedSimpArgs false
set_option maxRecDepth 100000
namespace Go.Proofs.YtebfhpjnbmdcoaaDoor
open Go.ChangeShapes Go.WideShapes Go.ChangeAt Go.RowKit Go.Aev
namespace CalcSafe
theorem call (p : Par) (h0_ : Hd) (k0_ : Fo) (l1_ : List Vl) (b1 : l1_.length ≤ 9223372036854775807) : callL (cfg p) 3 [.agg [(.int .i64 h0_.k, .none), (.int .i64 h0_.n, .none), (.int .i64 h0_.vk, .none), (.int .i64 h0_.vn, .none), (.str (mk h0_.vs), .none), (.str (mk h0_.tab), .none), (.str (mk h0_.col), .none), (.sl k0_.enc, .none)], .dat (.sl (l1_.map Vl.enc))] [] = some ([(.dat (.bool true), .none)], []) := by
  have h0 : ∀ X : Ty_law16_CalcSafe, P_law16_CalcSafe X none3 [.agg [(.int .i64 h0_.k, .none), (.int .i64 h0_.n, .none), (.int .i64 h0_.vk, .none), (.int .i64 h0_.vn, .none), (.str (mk h0_.vs), .none), (.str (mk h0_.tab), .none), (.str (mk h0_.col), .none), (.sl k0_.enc, .none)], .dat (.sl (l1_.map Vl.enc))] [] (List Ent × Sig) some = X h0_.k h0_.n h0_.vk h0_.vn (mk h0_.vs) (mk h0_.tab) (mk h0_.col) k0_.enc (l1_.map Vl.enc) (List Ent × Sig) (fun r0 => some ([(.dat (.bool r0), .none)], [])) := fun X => by kernel_rfl
  obtain ⟨r, h1, h2⟩ := E_law16_CalcSafe p (ent_none _ _) _ _ _ _ _ ((h0 Sp.law16_CalcSafe).trans (safes h0_ k0_ l1_ b1 _ _))
  cases h2
  exact h1
theorem own : ownKnob Tryd.prog.godebug = none := by kernel_rfl
theorem contract (H : Type) (enc : TypeId × Value → H) (W : World) (base : Nat) (args : Array Value) (ds gs : List (DataW H)) (before : List MemPlace)
    (hval : ∀ (j : Nat) t v, Tryd.f3.params[j]? = some t → args[j]? = some v → Value.okWide Tryd.prog W .any base t v)
    (hW : DataW.Whole enc Tryd.prog Tryd.f3.params.toList Rows.calcSafeSpec.vars false W args.toList ds gs before) (hL : laidMetH Tryd.prog Rows.calcSafeRow.laid W) (hS : W.ShapedOpen Tryd.prog) :
    Calls Tryd.prog 3 args W fun e W' => ∃ v, e = .returned v ∧ Rows.calcSafeSpec.post enc Tryd.prog Tryd.f3 false true false false W args v W' := by
  have hW' := hW
  obtain ⟨p, q, hA0, hV, rfl, hfz, hnd⟩ := hW
  have hA : DataW.TrodAll enc Tryd.prog W 0 (fun _ => true) true Tryd.f3.params.toList args.toList ds p := hA0
  rw [Tryd.params3] at hA hval
  obtain ⟨v0, vs0, d0, ds0, p0, q0, hargs0, rfl, rfl, h0, r0⟩ := trodAll_cons hA
  obtain ⟨v1, vs1, d1, ds1, p1, q1, hargs1, rfl, rfl, h1, r1⟩ := trodAll_cons r0
  obtain ⟨rfl, rfl, rfl⟩ := trodAll_nil r1
  obtain rfl : args = #[v0, v1] := by cases args; simp_all
  obtain ⟨rfl, rfl⟩ := trodVars_none hV
  obtain ⟨n0, x0, t0, k0⟩ := open_arg simples_ok (show 26 ∈ simples by decide) (hval 0 26 v0 rfl rfl) h0
  obtain ⟨h0_, k0_, rfl⟩ := has_expr t0
  obtain ⟨n1, x1, t1, k1⟩ := open_arg simples_ok (show 27 ∈ simples by decide) (hval 1 27 v1 rfl rfl) h1
  obtain ⟨l1_, rfl, b1⟩ := has_row t1
  obtain ⟨p, hg⟩ := globs hL hS
  refine contract_true (cfg_ok p) (prim_ok p) kids fulls hW' rfl ?_ rfl (tb := 4) (by kernel_rfl) Tryd.underlying4 rfl (call p h0_ k0_ l1_ b1) rfl ?_ hg
  · intro t ht
    rw [Tryd.params3] at ht
    have hall : ([26, 27].all fun t => decide (t < Tryd.prog.types.size)) = true := by kernel_rfl
    have hm : t ∈ [26, 27] := by simpa using ht
    have := List.all_eq_true.1 hall t hm
    exact of_decide_eq_true this
  · intro i x v hx hv
    match i with
    | 0 => cases hx; cases hv; exact k0
    | 1 => cases hx; cases hv; exact k1
    | n + 2 => cases hx
def wargs : Array Value := #[.agg #[.int .i64 0, .int .i64 0, .int .i64 0, .int .i64 0, .string ⟨#[]⟩, .string ⟨#[]⟩, .string ⟨#[]⟩, .slice none 0 0], .slice none 0 0]
set_option maxRecDepth 100000 in
theorem laid_met (os : Os) : laidMet Tryd.prog Rows.calcSafeRow.laid ((laidWorld os).forCall (fun _ _ => 0) ⟨#[], wargs, []⟩).memory :=
  laidMet_of_run' 8 (by kernel_rfl) (by kernel_rfl)
theorem reads (os : Os) {H : Type} (enc : TypeId × Value → H) : ∃ places, DataW.whole enc Tryd.prog ((laidWorld os).forCall (fun _ _ => 0) ⟨#[], wargs, []⟩).memory Tryd.f3.params.toList Rows.calcSafeSpec.vars false wargs.toList 8 = some ([.agg [.lit (.int .i64 0), .lit (.int .i64 0), .agg [.lit (.int .i64 0), .lit (.int .i64 0), .lit (.string [])], .lit (.string []), .lit (.string []), .nil], .nil], [], places) :=
  ⟨[], by kernel_rfl⟩

set_option maxRecDepth 100000 in
theorem lifted (os : Os) (started : os.Started) (H : Type) (enc : TypeId × Value → H) (F : Stop.Interp) :
    ReturnsInHanded {} Tryd.checked os 3 .any ((OpenSpec.ofChange Rows.calcSafeSpec).preRow enc Tryd.prog Tryd.f3 Rows.calcSafeRow.domain false Rows.calcSafeRow.laid) (((OpenSpec.ofChange Rows.calcSafeSpec).at F).post enc Tryd.prog Tryd.f3 false true false false) := by
  obtain ⟨places, hx⟩ := reads os enc
  refine returnsInHanded_of_row (C := Tryd.checked) (s := OpenSpec.ofChange Rows.calcSafeSpec) own started (by kernel_rfl) Tryd.func3
    (witness_row_at (enc := enc) (C := Tryd.checked) false (laidWorld os) wargs rfl (by kernel_rfl) (by kernel_rfl) (by kernel_rfl)
      (OpenSpec.preRow_of_cond 8 hx (by kernel_rfl) (fun k hk => by cases hk) (by kernel_rfl) (laid_met os))) ?_
  intro W base args ds gs before hval hW _ _ _ hL hS _
  exact contract H enc W base args ds gs before hval hW hL hS

theorem said : Rows.CalcSafeSaid :=
  OpenClaim.holds_of_cond 3 Tryd.f3 rfl rfl rfl rfl rfl rfl rfl ⟨rfl, rfl, rfl, rfl, rfl⟩ rfl rfl rfl rfl rfl (by kernel_rfl) Tryd.func3 (by kernel_rfl)
    (of_decide_eq_true (by kernel_rfl)) (by unfold Func.isWrapper; first | (rw [if_pos (by decide +kernel)]; kernel_rfl) | (rw [if_neg (by decide +kernel)]; exact ⟨rfl, rfl⟩))
    (fun os started H enc _ F => by rw [OpenClaim.pre_eq_preRow]; exact lifted os started H enc F)

theorem plain (f : FuncId) (fn : Func) (hf : Tryd.pinned.checked.prog.funcNamed "commissary/commissarylaw16.CalcSafe" = some f) (hfn : Tryd.pinned.checked.prog.funcs[f]? = some fn) :
    false = Tryd.pinned.checked.prog.looks [] ∧ ∀ (j : Nat) t, fn.params[j]? = some t → Tryd.pinned.checked.prog.wantsStandIn t = false := by
  obtain rfl : f = 3 := Option.some.inj ((show Tryd.prog.funcNamed "commissary/commissarylaw16.CalcSafe" = some 3 by kernel_rfl).symm.trans hf) |>.symm
  obtain rfl : fn = Tryd.f3 := (Option.some.inj (Tryd.func3.symm.trans hfn)).symm
  refine ⟨by kernel_rfl, fun j t ht => ?_⟩
  rw [Tryd.params3] at ht
  have hall : ([26, 27].all fun t => !Tryd.prog.wantsStandIn t) = true := by kernel_rfl
  have hm : t ∈ [26, 27] := by simpa using Array.mem_of_getElem? ht
  have := List.all_eq_true.1 hall t hm
  simp only [Bool.not_eq_true'] at this
  exact this

theorem card : Rows.CalcSafeCardSaid :=
  Claim7.holds_tied_plain_at .later [] _ _ _ _ said (fun _ h => by cases h) (by kernel_rfl) (fun _ h => by cases h) calcSafe_row_tie rfl ⟨rfl, rfl⟩ (by kernel_rfl) rfl plain (by kernel_rfl)
end CalcSafe
end Go.Proofs.YtebfhpjnbmdcoaaDoor
