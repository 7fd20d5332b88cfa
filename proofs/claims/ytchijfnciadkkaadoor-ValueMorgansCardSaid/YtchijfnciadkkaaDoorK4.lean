/- cmp.Or of three. -/
import Derived.Test.YtchijfnciadkkaaDoorK3
import Derived.Test.YtchijfnciadkkaaDoorAevC
set_option linter.unusedVariables false
set_option linter.unusedSimpArgs false
namespace Go.Proofs.YtchijfnciadkkaaDoor
open Go.Aev Go.RowKit

def i (n : Int) : AVal := .dat (.int .i64 n)
def s34 (es : List (List Dat)) (n : Int) : St := { tm := [(.dat (.sl es), .none), (.undef, .none), (.dat (.int .i64 0), .none), (.dat (.int .i64 0), .none), (.undef, .none), (.undef, .none), (.dat (.sl es), .none), (.dat (.int .i64 n), .none), (.dat (.int .i64 0), .none)] ++ List.replicate 9 (.undef, .none), lo := List.replicate 18 none, sg := [] }
def three (a b c : Int) : List (List Dat) := [[.int .i64 a], [.int .i64 b], [.int .i64 c]]
noncomputable def r34 (m a b c : Int) : Vars → Option (Ex × Vars) := roundOf (cfg m) t36 34 0 (s34 (three a b c) 3)
theorem r34_0 (m a b c : Int) : r34 m a b c ([i 0, i 0], []) = cond (!decide (a = 0)) (some (.ret, ([i a, i 0], []))) (some (.normal, ([i 0, i 1], []))) := by kernel_rfl
theorem r34_1 (m a b c : Int) : r34 m a b c ([i 0, i 1], []) = cond (!decide (b = 0)) (some (.ret, ([i b, i 1], []))) (some (.normal, ([i 0, i 2], []))) := by kernel_rfl
theorem r34_2 (m a b c : Int) : r34 m a b c ([i 0, i 2], []) = cond (!decide (c = 0)) (some (.ret, ([i c, i 2], []))) (some (.normal, ([i 0, i 3], []))) := by kernel_rfl
theorem r34_3 (m a b c : Int) : r34 m a b c ([i 0, i 3], []) = some (.exit 0, ([i 0, i 3], [])) := by kernel_rfl

noncomputable def fin34 (m a b c : Int) (r : Ex × Vars) : Option (List Ent × Sig) := evF (cfg m) t36 (fun _ _ => some r) 34 [.dat (.sl (three a b c))] []
noncomputable def ev34 (m a b c : Int) : Option (List Ent × Sig) := evF (cfg m) t36 iterL 34 [.dat (.sl (three a b c))] []
theorem split34 (m a b c : Int) : ev34 m a b c = (iterL (r34 m a b c) ([i 0, i 0], [])).bind (fin34 m a b c) := by kernel_rfl
theorem ret34 (m a b c x j : Int) : fin34 m a b c (.ret, ([i x, i j], [])) = ri x := by kernel_rfl
theorem exit34 (m a b c x j : Int) : fin34 m a b c (.exit 0, ([i x, i j], [])) = ri 0 := by kernel_rfl

def Sp.or3 (a b c : Int) : Int := cond (!decide (a = 0)) a (cond (!decide (b = 0)) b (cond (!decide (c = 0)) c 0))

theorem e34' (m a b c : Int) : ev34 m a b c = ri (Sp.or3 a b c) := by
  rw [split34]
  unfold Sp.or3
  have h0 := r34_0 m a b c
  have h1 := r34_1 m a b c
  have h2 := r34_2 m a b c
  have h3 := r34_3 m a b c
  generalize r34 m a b c = F at h0 h1 h2 h3 ⊢
  have hr : ∀ x j, fin34 m a b c (.ret, ([i x, i j], [])) = ri x := fun x j => ret34 m a b c x j
  have he : ∀ x j, fin34 m a b c (.exit 0, ([i x, i j], [])) = ri 0 := fun x j => exit34 m a b c x j
  generalize fin34 m a b c = G at hr he ⊢
  cases ha : (!decide (a = 0)) with
  | true =>
    rw [ha, cond_true] at h0
    rw [iterL_step h0]
    exact hr a 0
  | false =>
    rw [ha, cond_false] at h0
    rw [iterL_step h0]
    cases hb : (!decide (b = 0)) with
    | true =>
      rw [hb, cond_true] at h1
      rw [iterL_step h1]
      exact hr b 1
    | false =>
      rw [hb, cond_false] at h1
      rw [iterL_step h1]
      cases hc : (!decide (c = 0)) with
      | true =>
        rw [hc, cond_true] at h2
        rw [iterL_step h2]
        exact hr c 2
      | false =>
        rw [hc, cond_false] at h2
        rw [iterL_step h2, iterL_step h3]
        exact he 0 3
theorem e34 (m a b c : Int) : evF (cfg m) t36 iterL 34 [.dat (.sl [[.int .i64 a], [.int .i64 b], [.int .i64 c]])] [] = ri (Sp.or3 a b c) := e34' m a b c
end Go.Proofs.YtchijfnciadkkaaDoor
