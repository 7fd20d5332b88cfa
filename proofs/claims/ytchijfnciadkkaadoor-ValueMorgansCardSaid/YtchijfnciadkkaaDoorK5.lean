/- What values come to. -/
import Derived.Test.YtchijfnciadkkaaDoorK4
set_option linter.unusedVariables false
set_option linter.unusedSimpArgs false
namespace Go.Proofs.YtchijfnciadkkaaDoor
open Go.Aev Go.RowKit
namespace Sp
def cmpV (k n : Int) (s : ByteArray) (k' n' : Int) (s' : ByteArray) : Int := or3 (cmpI k k') (cmpI n n') (cmpS s s')
def known (k n : Int) (s : ByteArray) (k' n' : Int) (s' : ByteArray) : Bool := cond (decide (k = 0)) false (cond (!decide (k' = 0)) (cond (decide (Sp.check k n s = 0)) (decide (Sp.check k' n' s' = 0)) false) false)
def equal (k n : Int) (s : ByteArray) (k' n' : Int) (s' : ByteArray) : Int := cond (!Sp.known k n s k' n' s') 2 (Sp.truth (decide (k = k') && (decide (n = n') && (decide (s = s') && true))))
def less (k n : Int) (s : ByteArray) (k' n' : Int) (s' : ByteArray) : Int := cond (!Sp.known k n s k' n' s') 2 (cond (decide (k = k')) (Sp.truth (decide (Sp.cmpV k n s k' n' s' < 0))) (Sp.truth false))
def tru (k n : Int) (s : ByteArray) : Int := cond (!decide (k = 1)) 2 (cond (!decide (Sp.check k n s = 0)) 2 n)
def ofk (a : Int) : Int := cond (decide (near a = 2)) 0 1
def ofn (a : Int) : Int := cond (decide (near a = 2)) 0 (Sp.truth (decide (a = 1)))
end Sp
def s34t (args : List AVal) (sg : Sig) : Option (List Ent × Sig) :=
  match args, sg with
  | [.dat (.sl [[.int .i64 a], [.int .i64 b], [.int .i64 c]])], [] => ri (Sp.or3 a b c)
  | _, _ => none
def t34 : CallFn := add t36 34 s34t
theorem t34_ok (m : Int) : TblOk (cfg m) t34 := add_ok (t36_ok m) rfl fun args sg r h => by
  unfold s34t at h
  split at h
  · rw [← h]; exact e34 m _ _ _
  · cases h

def s19 (args : List AVal) (sg : Sig) : Option (List Ent × Sig) :=
  match args, sg with
  | [.agg [(.int .i64 k, .none), (.int .i64 n, .none), (.str s, .none)], .agg [(.int .i64 k', .none), (.int .i64 n', .none), (.str s', .none)]], [] => ri (Sp.cmpV k n s k' n' s')
  | _, _ => none
theorem e19 (m : Int) (k : Int) (n : Int) (s : ByteArray) (k' : Int) (n' : Int) (s' : ByteArray) : evF (cfg m) t34 iterL 19 [.agg [(.int .i64 k, .none), (.int .i64 n, .none), (.str s, .none)], .agg [(.int .i64 k', .none), (.int .i64 n', .none), (.str s', .none)]] [] = ri (Sp.cmpV k n s k' n' s') := by
  kernel_rfl
def t19 : CallFn := add t34 19 s19
theorem t19_ok (m : Int) : TblOk (cfg m) t19 := add_ok (t34_ok m) rfl fun args sg r h => by
  unfold s19 at h
  split at h
  · rw [← h]; exact e19 m _ _ _ _ _ _
  · cases h
def s37 (args : List AVal) (sg : Sig) : Option (List Ent × Sig) :=
  match args, sg with
  | [.agg [(.int .i64 k, .none), (.int .i64 n, .none), (.str s, .none)], .agg [(.int .i64 k', .none), (.int .i64 n', .none), (.str s', .none)]], [] => rb (Sp.known k n s k' n' s')
  | _, _ => none
theorem e37 (m : Int) (k : Int) (n : Int) (s : ByteArray) (k' : Int) (n' : Int) (s' : ByteArray) : evF (cfg m) t19 iterL 37 [.agg [(.int .i64 k, .none), (.int .i64 n, .none), (.str s, .none)], .agg [(.int .i64 k', .none), (.int .i64 n', .none), (.str s', .none)]] [] = rb (Sp.known k n s k' n' s') := by
  have h : evF (cfg m) t19 iterL 37 [.agg [(.int .i64 k, .none), (.int .i64 n, .none), (.str s, .none)], .agg [(.int .i64 k', .none), (.int .i64 n', .none), (.str s', .none)]] [] = cond (decide (k = 0)) (rb false) (cond (!decide (k' = 0)) (cond (decide (Sp.check k n s = 0)) (rb (decide (Sp.check k' n' s' = 0))) (rb false)) (rb false)) := by kernel_rfl
  rw [h]; simp only [cond_rb]; rfl
def t37 : CallFn := add t19 37 s37
theorem t37_ok (m : Int) : TblOk (cfg m) t37 := add_ok (t19_ok m) rfl fun args sg r h => by
  unfold s37 at h
  split at h
  · rw [← h]; exact e37 m _ _ _ _ _ _
  · cases h
def s21 (args : List AVal) (sg : Sig) : Option (List Ent × Sig) :=
  match args, sg with
  | [.agg [(.int .i64 k, .none), (.int .i64 n, .none), (.str s, .none)], .agg [(.int .i64 k', .none), (.int .i64 n', .none), (.str s', .none)]], [] => ri (Sp.equal k n s k' n' s')
  | _, _ => none
theorem e21 (m : Int) (k : Int) (n : Int) (s : ByteArray) (k' : Int) (n' : Int) (s' : ByteArray) : evF (cfg m) t37 iterL 21 [.agg [(.int .i64 k, .none), (.int .i64 n, .none), (.str s, .none)], .agg [(.int .i64 k', .none), (.int .i64 n', .none), (.str s', .none)]] [] = ri (Sp.equal k n s k' n' s') := by
  have h : evF (cfg m) t37 iterL 21 [.agg [(.int .i64 k, .none), (.int .i64 n, .none), (.str s, .none)], .agg [(.int .i64 k', .none), (.int .i64 n', .none), (.str s', .none)]] [] = cond (!Sp.known k n s k' n' s') (ri 2) (ri (Sp.truth (decide (k = k') && (decide (n = n') && (decide (s = s') && true))))) := by kernel_rfl
  rw [h]; simp only [cond_ri]; rfl
def t21 : CallFn := add t37 21 s21
theorem t21_ok (m : Int) : TblOk (cfg m) t21 := add_ok (t37_ok m) rfl fun args sg r h => by
  unfold s21 at h
  split at h
  · rw [← h]; exact e21 m _ _ _ _ _ _
  · cases h
def s23 (args : List AVal) (sg : Sig) : Option (List Ent × Sig) :=
  match args, sg with
  | [.agg [(.int .i64 k, .none), (.int .i64 n, .none), (.str s, .none)], .agg [(.int .i64 k', .none), (.int .i64 n', .none), (.str s', .none)]], [] => ri (Sp.less k n s k' n' s')
  | _, _ => none
theorem e23 (m : Int) (k : Int) (n : Int) (s : ByteArray) (k' : Int) (n' : Int) (s' : ByteArray) : evF (cfg m) t21 iterL 23 [.agg [(.int .i64 k, .none), (.int .i64 n, .none), (.str s, .none)], .agg [(.int .i64 k', .none), (.int .i64 n', .none), (.str s', .none)]] [] = ri (Sp.less k n s k' n' s') := by
  have h : evF (cfg m) t21 iterL 23 [.agg [(.int .i64 k, .none), (.int .i64 n, .none), (.str s, .none)], .agg [(.int .i64 k', .none), (.int .i64 n', .none), (.str s', .none)]] [] = cond (!Sp.known k n s k' n' s') (ri 2) (cond (decide (k = k')) (ri (Sp.truth (decide (Sp.cmpV k n s k' n' s' < 0)))) (ri (Sp.truth false))) := by kernel_rfl
  rw [h]; simp only [cond_ri]; rfl
def t23 : CallFn := add t21 23 s23
theorem t23_ok (m : Int) : TblOk (cfg m) t23 := add_ok (t21_ok m) rfl fun args sg r h => by
  unfold s23 at h
  split at h
  · rw [← h]; exact e23 m _ _ _ _ _ _
  · cases h
def s25 (args : List AVal) (sg : Sig) : Option (List Ent × Sig) :=
  match args, sg with
  | [.agg [(.int .i64 k, .none), (.int .i64 n, .none), (.str s, .none)]], [] => ri (Sp.tru k n s)
  | _, _ => none
theorem e25 (m : Int) (k : Int) (n : Int) (s : ByteArray) : evF (cfg m) t23 iterL 25 [.agg [(.int .i64 k, .none), (.int .i64 n, .none), (.str s, .none)]] [] = ri (Sp.tru k n s) := by
  have h : evF (cfg m) t23 iterL 25 [.agg [(.int .i64 k, .none), (.int .i64 n, .none), (.str s, .none)]] [] = cond (!decide (k = 1)) (ri 2) (cond (!decide (Sp.check k n s = 0)) (ri 2) (ri n)) := by kernel_rfl
  rw [h]; simp only [cond_ri]; rfl
def t25 : CallFn := add t23 25 s25
theorem t25_ok (m : Int) : TblOk (cfg m) t25 := add_ok (t23_ok m) rfl fun args sg r h => by
  unfold s25 at h
  split at h
  · rw [← h]; exact e25 m _ _ _
  · cases h
def s30 (args : List AVal) (sg : Sig) : Option (List Ent × Sig) :=
  match args, sg with
  | [.dat (.int .i64 a)], [] => rv (Sp.ofk a) (Sp.ofn a) ⟨#[]⟩
  | _, _ => none
theorem e30 (m : Int) (a : Int) : evF (cfg m) t25 iterL 30 [.dat (.int .i64 a)] [] = rv (Sp.ofk a) (Sp.ofn a) ⟨#[]⟩ := by
  have h : evF (cfg m) t25 iterL 30 [.dat (.int .i64 a)] [] = cond (decide (Sp.near a = 2)) (rv 0 0 ⟨#[]⟩) (rv 1 (Sp.truth (decide (a = 1))) ⟨#[]⟩) := by kernel_rfl
  rw [h]; unfold Sp.ofk Sp.ofn; cases decide (Sp.near a = 2) <;> rfl
def t30 : CallFn := add t25 30 s30
theorem t30_ok (m : Int) : TblOk (cfg m) t30 := add_ok (t25_ok m) rfl fun args sg r h => by
  unfold s30 at h
  split at h
  · rw [← h]; exact e30 m _
  · cases h
end Go.Proofs.YtchijfnciadkkaaDoor
