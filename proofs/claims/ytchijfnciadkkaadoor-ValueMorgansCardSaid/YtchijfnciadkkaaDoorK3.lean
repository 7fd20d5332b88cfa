/- What the small functions of this program come to. -/
import Derived.Test.YtchijfnciadkkaaDoorK2
set_option linter.unusedVariables false
set_option linter.unusedSimpArgs false
namespace Go.Proofs.YtchijfnciadkkaaDoor
open Go.Aev Go.RowKit

def ri (x : Int) : Option (List Ent × Sig) := some ([(.dat (.int .i64 x), .none)], [])
def rb (x : Bool) : Option (List Ent × Sig) := some ([(.dat (.bool x), .none)], [])
def rv (k n : Int) (s : ByteArray) : Option (List Ent × Sig) := some ([(.agg [(.int .i64 k, .none), (.int .i64 n, .none), (.str s, .none)], .none)], [])

theorem cond_ri (c : Bool) (x y : Int) : cond c (ri x) (ri y) = ri (cond c x y) := by cases c <;> rfl
theorem cond_rb (c : Bool) (x y : Bool) : cond c (rb x) (rb y) = rb (cond c x y) := by cases c <;> rfl

namespace Sp
def near (a : Int) : Int := cond (decide (a < 0)) 2 (cond (decide (2 < a)) 2 a)
def not (a : Int) : Int := cond (decide (near a = 0)) 1 (cond (decide (near a = 1)) 0 2)
def and (a b : Int) : Int := cond (decide (near a = 0) || decide (near b = 0)) 0 (cond (decide (near a = 1) && decide (near b = 1)) 1 2)
def truth (b : Bool) : Int := cond b 1 0
def check (k n : Int) (s : ByteArray) : Int :=
  cond (decide (k = 0)) (cond (!(decide (k = 0) && (decide (n = 0) && (decide (s = ⟨#[]⟩) && true)))) 10 0)
  (cond (decide (k = 1)) (cond (decide (n.fdiv 2 = 0)) (cond (!decide (s = ⟨#[]⟩)) 10 0) 10)
  (cond (decide (k = 2)) (cond (decide (-9007199254740991 ≤ n)) (cond (decide (n ≤ 9007199254740991)) (cond (!decide (s = ⟨#[]⟩)) 10 0) 10) 10)
  (cond (decide (k = 3)) (cond (decide (n = 0)) (cond (!decide ((s.size : Int) ≤ 64)) 10 0) 10) 10)))
def cmpI (a b : Int) : Int := cond (decide (a < b)) (-1) (cond (decide (b < a)) 1 0)
def cmpS (a b : ByteArray) : Int := cond (Op.bytesLess a.data.toList b.data.toList) (-1) (cond (!(Op.bytesLess a.data.toList b.data.toList || decide (a = b))) 1 0)
theorem near_cases (a : Int) : near a = 0 ∨ near a = 1 ∨ near a = 2 := by
  unfold near
  by_cases h1 : a < 0
  · simp [h1]
  · by_cases h2 : 2 < a
    · simp [h1, h2]
    · simp only [h1, h2, decide_false, cond_false]; omega
end Sp

def t0 : CallFn := fun _ _ _ => none
theorem t0_ok (m : Int) : TblOk (cfg m) t0 := tbl_none _
def s41 (args : List AVal) (sg : Sig) : Option (List Ent × Sig) :=
  match args, sg with
  | [.dat (.int .i64 a)], [] => ri (Sp.near a)
  | _, _ => none
theorem e41 (m : Int) (a : Int) : evF (cfg m) t0 iterL 41 [.dat (.int .i64 a)] [] = ri (Sp.near a) := by
  have h : evF (cfg m) t0 iterL 41 [.dat (.int .i64 a)] [] = cond (decide (a < 0)) (ri 2) (cond (decide (2 < a)) (ri 2) (ri a)) := by kernel_rfl
  rw [h]; simp only [cond_ri]; rfl
def t41 : CallFn := add t0 41 s41
theorem t41_ok (m : Int) : TblOk (cfg m) t41 := add_ok (t0_ok m) rfl fun args sg r h => by
  unfold s41 at h
  split at h
  · rw [← h]; exact e41 m _
  · cases h
def s27 (args : List AVal) (sg : Sig) : Option (List Ent × Sig) :=
  match args, sg with
  | [.dat (.int .i64 a)], [] => ri (Sp.not a)
  | _, _ => none
theorem e27 (m : Int) (a : Int) : evF (cfg m) t41 iterL 27 [.dat (.int .i64 a)] [] = ri (Sp.not a) := by
  have h : evF (cfg m) t41 iterL 27 [.dat (.int .i64 a)] [] = cond (decide (0 ≤ Sp.near a) && decide (Sp.near a < 3)) (match (List.drop ((Sp.near a).toNat * 1) [Dat.int IntKind.i64 1, Dat.int IntKind.i64 0, Dat.int IntKind.i64 2])[0]? with
    | some d => Go.Aev.asInt IntKind.i64 d fun n => ri n
    | none => none) none := by kernel_rfl
  rw [h]; unfold Sp.not
  rcases Sp.near_cases a with h | h | h <;> rw [h] <;> rfl
def t27 : CallFn := add t41 27 s27
theorem t27_ok (m : Int) : TblOk (cfg m) t27 := add_ok (t41_ok m) rfl fun args sg r h => by
  unfold s27 at h
  split at h
  · rw [← h]; exact e27 m _
  · cases h
def s28 (args : List AVal) (sg : Sig) : Option (List Ent × Sig) :=
  match args, sg with
  | [.dat (.int .i64 a), .dat (.int .i64 b)], [] => ri (Sp.and a b)
  | _, _ => none
theorem e28 (m : Int) (a : Int) (b : Int) : evF (cfg m) t27 iterL 28 [.dat (.int .i64 a), .dat (.int .i64 b)] [] = ri (Sp.and a b) := by
  have h : evF (cfg m) t27 iterL 28 [.dat (.int .i64 a), .dat (.int .i64 b)] [] = cond (decide (0 ≤ Sp.near a) && decide (Sp.near a < 3)) (cond (decide (0 ≤ Sp.near b) && decide (Sp.near b < 3)) (match (List.drop ((Sp.near b).toNat * 1) (List.drop ((Sp.near a).toNat * 3) [Dat.int IntKind.i64 0, Dat.int IntKind.i64 0, Dat.int IntKind.i64 0, Dat.int IntKind.i64 0, Dat.int IntKind.i64 1, Dat.int IntKind.i64 2, Dat.int IntKind.i64 0, Dat.int IntKind.i64 2, Dat.int IntKind.i64 2]))[0]? with
    | some d => Go.Aev.asInt IntKind.i64 d fun n => ri n
    | none => none) none) none := by kernel_rfl
  rw [h]; unfold Sp.and
  rcases Sp.near_cases a with h | h | h <;> rw [h] <;> rcases Sp.near_cases b with h' | h' | h' <;> rw [h'] <;> rfl
def t28 : CallFn := add t27 28 s28
theorem t28_ok (m : Int) : TblOk (cfg m) t28 := add_ok (t27_ok m) rfl fun args sg r h => by
  unfold s28 at h
  split at h
  · rw [← h]; exact e28 m _ _
  · cases h
def s29 (args : List AVal) (sg : Sig) : Option (List Ent × Sig) :=
  match args, sg with
  | [.dat (.int .i64 a), .dat (.int .i64 b)], [] => ri (Sp.not (Sp.and (Sp.not a) (Sp.not b)))
  | _, _ => none
theorem e29 (m : Int) (a : Int) (b : Int) : evF (cfg m) t28 iterL 29 [.dat (.int .i64 a), .dat (.int .i64 b)] [] = ri (Sp.not (Sp.and (Sp.not a) (Sp.not b))) := by
  kernel_rfl
def t29 : CallFn := add t28 29 s29
theorem t29_ok (m : Int) : TblOk (cfg m) t29 := add_ok (t28_ok m) rfl fun args sg r h => by
  unfold s29 at h
  split at h
  · rw [← h]; exact e29 m _ _
  · cases h
def s38 (args : List AVal) (sg : Sig) : Option (List Ent × Sig) :=
  match args, sg with
  | [.dat (.bool b)], [] => ri (Sp.truth b)
  | _, _ => none
theorem e38 (m : Int) (b : Bool) : evF (cfg m) t29 iterL 38 [.dat (.bool b)] [] = ri (Sp.truth b) := by
  cases b <;> kernel_rfl
def t38 : CallFn := add t29 38 s38
theorem t38_ok (m : Int) : TblOk (cfg m) t38 := add_ok (t29_ok m) rfl fun args sg r h => by
  unfold s38 at h
  split at h
  · rw [← h]; exact e38 m _
  · cases h
def s10 (args : List AVal) (sg : Sig) : Option (List Ent × Sig) :=
  match args, sg with
  | [], [] => rv 0 0 ⟨#[]⟩
  | _, _ => none
theorem e10 (m : Int)  : evF (cfg m) t38 iterL 10 [] [] = rv 0 0 ⟨#[]⟩ := by
  kernel_rfl
def t10 : CallFn := add t38 10 s10
theorem t10_ok (m : Int) : TblOk (cfg m) t10 := add_ok (t38_ok m) rfl fun args sg r h => by
  unfold s10 at h
  split at h
  · rw [← h]; exact e10 m
  · cases h
def s11 (args : List AVal) (sg : Sig) : Option (List Ent × Sig) :=
  match args, sg with
  | [.dat (.bool b)], [] => rv 1 (Sp.truth b) ⟨#[]⟩
  | _, _ => none
theorem e11 (m : Int) (b : Bool) : evF (cfg m) t10 iterL 11 [.dat (.bool b)] [] = rv 1 (Sp.truth b) ⟨#[]⟩ := by
  cases b <;> kernel_rfl
def t11 : CallFn := add t10 11 s11
theorem t11_ok (m : Int) : TblOk (cfg m) t11 := add_ok (t10_ok m) rfl fun args sg r h => by
  unfold s11 at h
  split at h
  · rw [← h]; exact e11 m _
  · cases h
def s13 (args : List AVal) (sg : Sig) : Option (List Ent × Sig) :=
  match args, sg with
  | [.dat (.int .i64 n)], [] => rv 2 n ⟨#[]⟩
  | _, _ => none
theorem e13 (m : Int) (n : Int) : evF (cfg m) t11 iterL 13 [.dat (.int .i64 n)] [] = rv 2 n ⟨#[]⟩ := by
  kernel_rfl
def t13 : CallFn := add t11 13 s13
theorem t13_ok (m : Int) : TblOk (cfg m) t13 := add_ok (t11_ok m) rfl fun args sg r h => by
  unfold s13 at h
  split at h
  · rw [← h]; exact e13 m _
  · cases h
def s15 (args : List AVal) (sg : Sig) : Option (List Ent × Sig) :=
  match args, sg with
  | [.dat (.str s)], [] => rv 3 0 s
  | _, _ => none
theorem e15 (m : Int) (s : ByteArray) : evF (cfg m) t13 iterL 15 [.dat (.str s)] [] = rv 3 0 s := by
  kernel_rfl
def t15 : CallFn := add t13 15 s15
theorem t15_ok (m : Int) : TblOk (cfg m) t15 := add_ok (t13_ok m) rfl fun args sg r h => by
  unfold s15 at h
  split at h
  · rw [← h]; exact e15 m _
  · cases h
def s9 (args : List AVal) (sg : Sig) : Option (List Ent × Sig) :=
  match args, sg with
  | [.agg [(.int .i64 k, .none), (.int .i64 n, .none), (.str s, .none)]], [] => ri (Sp.check k n s)
  | _, _ => none
theorem e9 (m : Int) (k : Int) (n : Int) (s : ByteArray) : evF (cfg m) t15 iterL 9 [.agg [(.int .i64 k, .none), (.int .i64 n, .none), (.str s, .none)]] [] = ri (Sp.check k n s) := by
  have h : evF (cfg m) t15 iterL 9 [.agg [(.int .i64 k, .none), (.int .i64 n, .none), (.str s, .none)]] [] = cond (decide (k = 0)) (cond (!(decide (k = 0) && (decide (n = 0) && (decide (s = ⟨#[]⟩) && true)))) (ri 10) (ri 0))  (cond (decide (k = 1)) (cond (decide (n.fdiv 2 = 0)) (cond (!decide (s = ⟨#[]⟩)) (ri 10) (ri 0)) (ri 10))  (cond (decide (k = 2)) (cond (decide (-9007199254740991 ≤ n)) (cond (decide (n ≤ 9007199254740991)) (cond (!decide (s = ⟨#[]⟩)) (ri 10) (ri 0)) (ri 10)) (ri 10))  (cond (decide (k = 3)) (cond (decide (n = 0)) (cond (!decide ((s.size : Int) ≤ 64)) (ri 10) (ri 0)) (ri 10)) (ri 10)))) := by kernel_rfl
  rw [h]; simp only [cond_ri]; rfl
def t9 : CallFn := add t15 9 s9
theorem t9_ok (m : Int) : TblOk (cfg m) t9 := add_ok (t15_ok m) rfl fun args sg r h => by
  unfold s9 at h
  split at h
  · rw [← h]; exact e9 m _ _ _
  · cases h
def s44 (args : List AVal) (sg : Sig) : Option (List Ent × Sig) :=
  match args, sg with
  | [.dat (.int .i64 a)], [] => rb false
  | _, _ => none
theorem e44 (m : Int) (a : Int) : evF (cfg m) t9 iterL 44 [.dat (.int .i64 a)] [] = rb false := by
  have h : evF (cfg m) t9 iterL 44 [.dat (.int .i64 a)] [] = rb (!decide (a = a)) := by kernel_rfl
  rw [h]; simp
def t44 : CallFn := add t9 44 s44
theorem t44_ok (m : Int) : TblOk (cfg m) t44 := add_ok (t9_ok m) rfl fun args sg r h => by
  unfold s44 at h
  split at h
  · rw [← h]; exact e44 m _
  · cases h
def s45 (args : List AVal) (sg : Sig) : Option (List Ent × Sig) :=
  match args, sg with
  | [.dat (.str a)], [] => rb false
  | _, _ => none
theorem e45 (m : Int) (a : ByteArray) : evF (cfg m) t44 iterL 45 [.dat (.str a)] [] = rb false := by
  have h : evF (cfg m) t44 iterL 45 [.dat (.str a)] [] = rb (!decide (a = a)) := by kernel_rfl
  rw [h]; simp
def t45 : CallFn := add t44 45 s45
theorem t45_ok (m : Int) : TblOk (cfg m) t45 := add_ok (t44_ok m) rfl fun args sg r h => by
  unfold s45 at h
  split at h
  · rw [← h]; exact e45 m _
  · cases h
def s35 (args : List AVal) (sg : Sig) : Option (List Ent × Sig) :=
  match args, sg with
  | [.dat (.int .i64 a), .dat (.int .i64 b)], [] => ri (Sp.cmpI a b)
  | _, _ => none
theorem e35 (m : Int) (a : Int) (b : Int) : evF (cfg m) t45 iterL 35 [.dat (.int .i64 a), .dat (.int .i64 b)] [] = ri (Sp.cmpI a b) := by
  have h : evF (cfg m) t45 iterL 35 [.dat (.int .i64 a), .dat (.int .i64 b)] [] = cond (decide (a < b)) (ri (-1)) (cond (decide (b < a)) (ri 1) (ri 0)) := by kernel_rfl
  rw [h]; simp only [cond_ri]; rfl
def t35 : CallFn := add t45 35 s35
theorem t35_ok (m : Int) : TblOk (cfg m) t35 := add_ok (t45_ok m) rfl fun args sg r h => by
  unfold s35 at h
  split at h
  · rw [← h]; exact e35 m _ _
  · cases h
def s36 (args : List AVal) (sg : Sig) : Option (List Ent × Sig) :=
  match args, sg with
  | [.dat (.str a), .dat (.str b)], [] => ri (Sp.cmpS a b)
  | _, _ => none
theorem e36 (m : Int) (a : ByteArray) (b : ByteArray) : evF (cfg m) t35 iterL 36 [.dat (.str a), .dat (.str b)] [] = ri (Sp.cmpS a b) := by
  have h : evF (cfg m) t35 iterL 36 [.dat (.str a), .dat (.str b)] [] = cond (Op.bytesLess a.data.toList b.data.toList) (ri (-1)) (cond (!(Op.bytesLess a.data.toList b.data.toList || decide (a = b))) (ri 1) (ri 0)) := by kernel_rfl
  rw [h]; simp only [cond_ri]; rfl
def t36 : CallFn := add t35 36 s36
theorem t36_ok (m : Int) : TblOk (cfg m) t36 := add_ok (t35_ok m) rfl fun args sg r h => by
  unfold s36 at h
  split at h
  · rw [← h]; exact e36 m _ _
  · cases h
end Go.Proofs.YtchijfnciadkkaaDoor
