/- The walk of the laws' own check 'awake': it is true in every world, and leaves what was there. -/
import Derived.Test.YtkgpijojamidiaaWc
import Derived.Lib.SlBytesConst
namespace Go.Proofs.Ytkgpijojamidiaa
open Go.RowKit

def dig : List UInt8 := [49, 50, 51, 52, 53, 54, 55, 56, 57]
def dig4 : List UInt8 := [49, 50, 51, 52]
def dig5 : List UInt8 := [53, 54, 55, 56, 57]
theorem dig_sum : U (crc dig) = 4236843288 := by decide +kernel
theorem dig_two : U (upd (crc dig4) dig5) = 4236843288 := by
  have e : upd (crc dig4) dig5 = crc dig := upd_upd 0#32 dig4 dig5
  rw [e, dig_sum]
theorem one_step0 : U (stepN (8 * times 0) 1#32) = 1 := by decide +kernel

/-- What was sealed is opened. -/
theorem open_sealed (A : Option Addr) (N c : Nat) (size : Int) (hs : size = N) (l : List UInt8) (w : World) (hl : l.length + 8 ≤ N) (hN : N ≤ 65536) (hnc : N ≤ c) (h : Rb w A N (sealL l N)) :
    Calls Try.prog 14 #[.slice A N c, .int .i64 size] w fun e w' => ∃ A' c', e = .returned (.tuple #[.slice A' l.length c', .int .i64 0]) ∧ Rb w' A' l.length l ∧ Below w.heap.size w w' := by
  subst hs
  refine (open_any A N c N _ w hnc h).mono fun e w' hh => ?_
  rw [open_seal l N hl hN] at hh
  obtain ⟨A', n', c', he, hr, hb⟩ := hh
  obtain rfl : l.length = n' := hr.len
  exact ⟨A', c', he, hr, hb⟩
theorem seal_at (A : Option Addr) (n c : Nat) (size : Int) (l : List UInt8) (N : Nat) (hs : size = N) (w : World) (h1 : 8 ≤ N) (h2 : N ≤ 65536) (h3 : n + 8 ≤ N) (h : Rb w A n l) :
    Calls Try.prog 12 #[.slice A n c, .int .i64 size] w fun e w' => ∃ g, e = .returned (.tuple #[.slice (some ⟨g, 0, none⟩) N N, .int .i64 0]) ∧ w.heap.size ≤ g ∧ Vk w' g 5 (by8 (sealL l N)) ∧ Below w.heap.size w w' := by
  subst hs
  exact seal_ok A n c l N w h1 h2 h3 h
theorem sealed_rb {w : World} {g : Nat} {l : List UInt8} {N : Nat} (h : Vk w g 5 (by8 (sealL l N))) (hl : l.length + 8 ≤ N) : Rb w (some ⟨g, 0, none⟩) N (sealL l N) :=
  h.rd 1 N (by rw [by8_length, sealL_length l N hl, Nat.mul_one])
/-- A block that was just laid, marked or not. -/
theorem new_rb (w : World) (e : TypeId) (l : List UInt8) (cs : Array Value) (fr : Nat × Nat) (h : cs = (by8 l).toArray) : Rb (w.alloc (.cells cs e fr)) (some ⟨w.heap.size, 0, none⟩) l.length l := by
  subst h
  refine ⟨by simp [by8_length], fun _ => ⟨_, 0, rfl, fun j u hu => ?_⟩⟩
  have hh : (w.alloc (.cells (by8 l).toArray e fr)).heap[w.heap.size]? = some (.cells (by8 l).toArray e fr) := heap_alloc_new w _
  rw [cell_of_row _ _ _ _ _ _ hh, ← hu]
  simp

theorem kconst (w : World) (g : Nat) (hg : g = w.heap.size) (C : Array Value) (n c : Nat) :
    (convert 22 22 (.slice (some ⟨g, 0, none⟩) n c)).run Try.prog (w.alloc (.cells C 5)) = .ok (.slice (some ⟨g, 0, none⟩) n c) (w.alloc (.cells C 5 (C.size, C.size + 1))) := by
  subst hg
  exact Lib.run_convert_bytes_const (P := Try.prog) w 22 5 C n c Try.underlying22 Try.underlying5
theorem new_rb' (w : World) (g : Nat) (hg : g = w.heap.size) (e : TypeId) (l : List UInt8) (cs : Array Value) (fr : Nat × Nat) (h : cs = (by8 l).toArray) : Rb (w.alloc (.cells cs e fr)) (some ⟨g, 0, none⟩) l.length l := by
  subst hg
  exact new_rb w e l cs fr h

set_option maxHeartbeats 2000000 in
theorem awake_any (w : World) : Calls Try.prog 8 #[] w fun e w' => e = .returned (.bool true) ∧ Below w.heap.size w w' := by
  have k1 : (U (crc dig) == 4236843288) = true := by rw [dig_sum]; rfl
  have k2 : (U (upd (crc dig4) dig5) == 4236843288) = true := by rw [dig_two]; rfl
  have k3 : (U (stepN (8 * times 0) 1#32) == 1) = true := by rw [one_step0]; rfl
  have kc := fun (w : World) (C : Array Value) (n c : Nat) => kconst w w.heap.size rfl C n c
  have kc1 := fun (w : World) (X : Obj) (C : Array Value) (n c : Nat) => kconst (w.alloc X) (w.heap.size + 1) (by simp) C n c
  have kc2 := fun (w : World) (X Y : Obj) (C : Array Value) (n c : Nat) => kconst ((w.alloc X).alloc Y) (w.heap.size + 1 + 1) (by simp) C n c
  go_enter Try.func8, Try.ntmps8
  go_wp2_with (first
    | (go_at_call 12; refine (seal_at _ 1 _ _ [120] 12 rfl _ (by omega) (by omega) (by omega) ?_).mono ?_; exact new_rb w 5 [120] _ _ rfl; rintro e w1 ⟨g, rfl, hg, hv, hb1⟩; have R1 := hide (sealed_rb hv (by simp)); clear hv)
    | (go_at_call 14; refine (open_sealed _ 12 _ _ rfl [120] _ (by simp) (by omega) (by omega) ?_).mono ?_; exact R1.out; rintro e w2 ⟨A2, c2, rfl, hr2, hb2⟩; have R2 := hide hr2; clear hr2)
    | (go_at_call 10; refine (of_any _ _ _ dig _ (by omega) ?_).mono ?_; exact new_rb' _ _ (by simp) 5 dig _ _ rfl; rintro e w' ⟨rfl, rfl⟩)
    | (go_at_call 10; refine (of_any _ _ _ dig4 _ (by omega) ?_).mono ?_; exact new_rb' _ _ (by simp) 5 dig4 _ _ rfl; rintro e w' ⟨rfl, rfl⟩)
    | (go_at_call 11; refine (update_any _ _ rfl _ _ _ dig5 _ (by omega) ?_).mono ?_; exact new_rb' _ _ (by simp) 5 dig5 _ _ rfl; rintro e w' ⟨rfl, rfl⟩)
    | (go_at_call 16; refine (shift_any _ _ 1#32 rfl _).mono ?_; rintro e w' ⟨rfl, rfl⟩)
    | ((with_reducible show wpList _ _ _ (⟨some 44, _, _, _, _, _⟩ :: _) _ _)
       refine wpList_cv rfl (.tmp 43) 22 5 9 rfl Try.underlying22 Try.underlying5 Try.underlying9 _ _ _ rfl [120] (((R2.out.alloc _).alloc _).alloc _) ?_))
  go_ret
  exact ⟨rfl, Below.al (Below.al (Below.al (Below.then_ (Below.then_ (Below.al (Below.refl _ _) _) hb1) hb2) _) _) _⟩

-- The law on any number of steps.
set_option maxHeartbeats 1000000 in
theorem shifts_any (x n : Int) (r : W32) (hx : x = U r) (w : World) : Calls Try.prog 5 #[.int .u32 x, .int .i64 n] w fun e w' => e = .returned (.bool true) ∧ Below w.heap.size w w' := by
  subst hx
  by_cases h : 2000 < n
  · go_enter Try.func5, Try.ntmps5
    go_wp2_with (go_at_call 8; refine (awake_any _).mono ?_; rintro e w1 ⟨rfl, hb⟩)
    go_ret
    exact ⟨rfl, hb⟩
  · go_enter Try.func5, Try.ntmps5
    go_wp2_with (first
      | (go_at_call 16; refine (shift_any _ _ r rfl _).mono ?_; rintro e w' ⟨rfl, rfl⟩)
      | (go_at_call 17; refine (refShift_any _ _ r rfl _).mono ?_; rintro e w' ⟨rfl, rfl⟩)
      | (go_at_call 8; refine (awake_any _).mono ?_; rintro e w1 ⟨rfl, hb⟩))
    go_ret
    exact ⟨rfl, hb⟩

end Go.Proofs.Ytkgpijojamidiaa
