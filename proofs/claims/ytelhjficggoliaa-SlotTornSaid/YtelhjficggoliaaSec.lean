/- Plain laws on what Put lays. No function of the program is named. -/
import Derived.Test.YtelhjficggoliaaNest
import Derived.Test.YtelhjficggoliaaMath
namespace Go.Proofs.Ytelhjficggoliaa
open Go.RowKit

/-- The row of a body: its length, the body, zeros. -/
def allB (l : List UInt8) : List UInt8 := UInt8.ofNat (l.length / 256) :: UInt8.ofNat l.length :: (l ++ zs8 (954 - l.length))
theorem allB_length (l : List UInt8) (h : l.length ≤ 954) : (allB l).length = 956 := by
  simp [allB, zs8_length]; omega
theorem zs8_two (N : Nat) : zs8 (N + 2) = 0 :: 0 :: zs8 N := rfl
theorem zs8_drop (N k : Nat) : (zs8 N).drop k = zs8 (N - k) := List.drop_replicate ..
theorem splice_two (x y : UInt8) (M l : List UInt8) : splice (x :: y :: M) 2 l = x :: y :: (l ++ M.drop l.length) := by
  unfold splice
  rw [Nat.add_comm 2]
  rfl
theorem allB_splice (l : List UInt8) : splice (((zs8 956).set 0 (UInt8.ofNat (l.length / 256))).set 1 (UInt8.ofNat l.length)) 2 l = allB l := by
  rw [zs8_two 954, List.set_cons_zero, List.set_cons_succ, List.set_cons_zero, splice_two, zs8_drop]
  rfl
/-- One sector, and the first k of them. -/
def sec (n : Nat) (l : List UInt8) (k : Nat) : List UInt8 := be8 n ++ [UInt8.ofNat k] ++ ((allB l).drop (k * 239)).take 239 ++ be8 n
def secs (n : Nat) (l : List UInt8) (k : Nat) : List (List UInt8) := (List.range k).map (sec n l)
theorem secs_succ (n : Nat) (l : List UInt8) (k : Nat) : secs n l (k + 1) = secs n l k ++ [sec n l k] := by
  simp [secs, List.range_succ]
theorem secs_length (n : Nat) (l : List UInt8) (k : Nat) : (secs n l k).length = k := by simp [secs]
theorem sec_length (n : Nat) (l : List UInt8) (k : Nat) (h : l.length ≤ 954) (hk : k < 4) : (sec n l k).length = 256 := by
  simp [sec, be8_length, allB_length l h]; omega
/-- What Put answers. -/
def putE (g : Int) (l : List UInt8) : Int := if g < 1 ∨ 1099511627776 < g then 9 else if 954 < l.length then 5 else 0
def putL (g : Int) (l : List UInt8) : List (List UInt8) := if putE g l = 0 then secs g.toNat l 4 else []
def PutPost (g : Int) (l : List UInt8) (w : World) (e : Ending) (w' : World) : Prop :=
  ∃ A n c, e = .returned (.tuple #[.slice A n c, .int .i64 (putE g l)]) ∧ Obb 22 5 w' w.heap.size A c n (putL g l) ∧ Below w.heap.size w w'

end Go.Proofs.Ytelhjficggoliaa
