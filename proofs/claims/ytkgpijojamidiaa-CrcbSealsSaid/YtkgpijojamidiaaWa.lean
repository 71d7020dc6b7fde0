/- The walks of the functions on registers: steps, shifts, sums of bytes, for every register and every text of fewer than 2^62 bytes. -/
import Derived.Test.YtkgpijojamidiaaRows
import Derived.Test.YtkgpijojamidiaaBits
import Derived.Test.YtkgpijojamidiaaSeal
namespace Go.Proofs.Ytkgpijojamidiaa
open Go.RowKit

def U (r : W32) : Int := (r.toNat : Int)
theorem U_lo (r : W32) : 0 ≤ U r := by unfold U; omega
theorem U_hi (r : W32) : U r < 4294967296 := by have := r.isLt; unfold U; omega

set_option maxHeartbeats 400000 in
theorem byteStep_any (x : Int) (r : W32) (hx : x = U r) (w : World) :
    Calls Try.prog 19 #[.int .u32 x] w fun e w' => e = .returned (.int .u32 (U (stepN 8 r))) ∧ w = w' := by
  subst hx
  go_enter Try.func19, Try.ntmps19
  go_wp2
  go_loop [0, 3] (fun t i => ∃ k : Nat, k ≤ 8 ∧ i = .int .i64 k ∧ t = .int .u32 (U (stepN k r))) (fun _ i => 8 - (intOf i).toNat)
  case atStart => exact ⟨0, Nat.zero_le _, rfl, rfl⟩
  case round =>
    obtain ⟨k, hk, rfl, rfl⟩ := hrel
    go_wp2
    · go_round
      case rel => exact ⟨k + 1, by omega, by go_num, congrArg (Value.int .u32) (step_bits (stepN k r))⟩
      case measure => simp [intOf]; omega
    · have hk8 : 8 ≤ k := by have h : (8 : Int) ≤ (k : Int) := by assumption
                             omega
      obtain rfl : k = 8 := by omega
      go_ret
      exact ⟨rfl, rfl⟩

set_option maxHeartbeats 400000 in
theorem step_any (x : Int) (r : W32) (hx : x = U r) (w : World) :
    Calls Try.prog 18 #[.int .u32 x] w fun e w' => e = .returned (.int .u32 (U (step1 r))) ∧ w = w' := by
  subst hx
  by_cases hh : 2147483648 ≤ U r
  · have hd : decide (2147483648 ≤ U r) = true := by simpa using hh
    have HH := hide hh
    clear hh
    go_enter Try.func18, Try.ntmps18
    go_wp2
    go_ret
    exact ⟨congrArg (fun v => Ending.returned (Value.int .u32 v)) (stepR_hi r HH.out), rfl⟩
  · have hd : decide (2147483648 ≤ U r) = false := by simpa using hh
    have HH := hide hh
    clear hh
    go_enter Try.func18, Try.ntmps18
    go_wp2
    go_ret
    exact ⟨congrArg (fun v => Ending.returned (Value.int .u32 v)) (stepR_lo r (Int.not_le.mpr HH.out)), rfl⟩

theorem ret_u32 {a b : Int} (h : a = b) : Ending.returned (.int .u32 a) = Ending.returned (.int .u32 b) := by rw [h]
theorem u32max : IntKind.u32.max = 4294967295 := by decide
theorem not_max (r : W32) : bits .xor .u32 IntKind.u32.max (U r) = U (~~~r) := by rw [u32max]; exact not_bits r

/-- How many steps of eight. -/
def times (n : Int) : Nat := (min n 100000).toNat

set_option maxHeartbeats 1000000 in
theorem shift_any (x n : Int) (r : W32) (hx : x = U r) (w : World) :
    Calls Try.prog 16 #[.int .u32 x, .int .i64 n] w fun e w' => e = .returned (.int .u32 (U (stepN (8 * times n) r))) ∧ w = w' := by
  subst hx
  have hc : (n ≤ 0 ∧ times n = 0) ∨ (∃ m : Nat, n = m ∧ 0 < m ∧ m ≤ 100000 ∧ times n = m) ∨ (100000 < n ∧ times n = 100000) := by
    unfold times
    by_cases h1 : n ≤ 0
    · left; omega
    · by_cases h2 : n ≤ 100000
      · right; left; exact ⟨n.toNat, by omega, by omega, by omega, by omega⟩
      · right; right; omega
  rcases hc with ⟨h1, hm⟩ | ⟨m, rfl, h1, h2, hm⟩ | ⟨h1, hm⟩
  · rw [hm]
    clear hm
    go_enter Try.func16, Try.ntmps16
    go_wp2_with fail
    go_loop [0, 8] (fun t i => i = .int .i64 0 ∧ t = .int .u32 (U r)) (fun _ _ => 0)
    case atStart => exact ⟨rfl, rfl⟩
    case round =>
      obtain ⟨rfl, rfl⟩ := hrel
      go_wp2_with fail
      go_ret
      exact ⟨rfl, rfl⟩
  · rw [hm]
    clear hm
    go_enter Try.func16, Try.ntmps16
    go_wp2_with fail
    go_loop [0, 8] (fun t i => ∃ k : Nat, k ≤ m ∧ i = .int .i64 k ∧ t = .int .u32 (U (stepN (8 * k) r))) (fun _ i => m - (intOf i).toNat)
    case atStart => exact ⟨0, Nat.zero_le _, rfl, rfl⟩
    case round =>
      obtain ⟨k, hk, rfl, rfl⟩ := hrel
      by_cases hlt : k < m
      · go_wp2_with (go_at_call 19; refine (byteStep_any _ _ rfl _).mono ?_; rintro e w' ⟨rfl, rfl⟩)
        go_round
        case rel => exact ⟨k + 1, by omega, by go_num, by rw [show 8 * (k + 1) = 8 + 8 * k by omega, stepN_add]⟩
        case measure => simp [intOf]; omega
      · go_wp2_with fail
        go_ret
        exact ⟨ret_u32 (by rw [show m = k by omega]), rfl⟩
  · rw [hm]
    clear hm
    go_enter Try.func16, Try.ntmps16
    go_wp2_with fail
    go_loop [0, 8] (fun t i => ∃ k : Nat, (k : Int) ≤ 100000 ∧ i = .int .i64 k ∧ t = .int .u32 (U (stepN (8 * k) r))) (fun _ i => (100000 - intOf i).toNat)
    case atStart => exact ⟨0, by omega, rfl, rfl⟩
    case round =>
      obtain ⟨k, hk, rfl, rfl⟩ := hrel
      by_cases hlt : (k : Int) < 100000
      · go_wp2_with (go_at_call 19; refine (byteStep_any _ _ rfl _).mono ?_; rintro e w' ⟨rfl, rfl⟩)
        go_round
        case rel => exact ⟨k + 1, by omega, by go_num, by rw [show 8 * (k + 1) = 8 + 8 * k by omega, stepN_add]⟩
        case measure => simp [intOf]; omega
      · go_wp2_with fail
        go_ret
        exact ⟨ret_u32 (by rw [show k = 100000 by omega]), rfl⟩

/-- The register at the beginning. -/
def ones : W32 := ~~~0#32
theorem crc_ones (l : List UInt8) : crc l = ~~~(run ones l) := rfl
theorem hi8_form (r : W32) (y : UInt8) : bits .xor .u32 (U r) ((y.toNat : Int) % 4294967296 * 16777216 % 4294967296) = U (r ^^^ hi8 y) := by
  have h := y.toNat_lt
  rw [show (y.toNat : Int) % 4294967296 = (y.toNat : Int) by omega]
  exact xor_hi8 r y

theorem take_snoc8 (l : List UInt8) (k : Nat) (h : k < l.length) : l.take (k + 1) = l.take k ++ [l.getD k 0] := by
  rw [List.take_succ_eq_append_getElem h]
  simp [List.getD, h]
theorem run_take0 (r : W32) (l : List UInt8) : run r (l.take 0) = r := rfl
theorem run_take (r : W32) (l : List UInt8) (k : Nat) (h : k < l.length) : run r (l.take (k + 1)) = stepN 8 (run r (l.take k) ^^^ hi8 (l.getD k 0)) := by
  rw [take_snoc8 l k h, run_snoc]

set_option maxHeartbeats 400000 in
theorem update_any (x : Int) (s : W32) (hx : x = U s) (A : Option Addr) (n c : Nat) (l : List UInt8) (w : World) (hn : n ≤ 4611686018427387904) (hl : Rb w A n l) :
    Calls Try.prog 11 #[.int .u32 x, .slice A n c] w fun e w' => e = .returned (.int .u32 (U (upd s l))) ∧ w = w' := by
  subst hx
  have hll := hide hl.len
  go_enter Try.func11, Try.ntmps11
  go_wp2_with fail
  go_loop [5, 7, 12] (fun t _ i => ∃ k : Nat, k ≤ n ∧ i = .int .i64 k ∧ t = .int .u32 (U (run (~~~s) (l.take k)))) (fun _ _ i => n - (intOf i).toNat)
  case atStart => exact ⟨0, Nat.zero_le _, rfl, by rw [run_take0, ← not_max]⟩
  case round =>
    obtain ⟨k, hk, rfl, rfl⟩ := hrel
    by_cases hlt : k < n
    · obtain ⟨b, o, rfl, _, hcl⟩ := hl.at_ (by omega)
      have hc := hcl k hlt
      clear hcl
      have HS := hide (run_take (~~~s) l k (by have := hll.out; omega))
      obtain ⟨y, hy⟩ : ∃ y, y = l.getD k 0 := ⟨_, rfl⟩
      rw [← hy] at hc HS
      clear hy hl
      go_wp2_with (go_at_call 19; refine (byteStep_any _ (run (~~~s) (l.take k) ^^^ hi8 y) (hi8_form _ _) _).mono ?_; rintro e w' ⟨rfl, rfl⟩)
      go_round
      case rel => exact ⟨k + 1, by omega, by go_num, by rw [HS.out]⟩
      case measure => simp [intOf]; omega
    · go_wp2_with fail
      go_ret
      exact ⟨ret_u32 ((not_max _).trans (by rw [List.take_of_length_le (by have := hll.out; omega)]; rfl)), rfl⟩

theorem of_any (A : Option Addr) (n c : Nat) (l : List UInt8) (w : World) (hn : n ≤ 4611686018427387904) (hl : Rb w A n l) :
    Calls Try.prog 10 #[.slice A n c] w fun e w' => e = .returned (.int .u32 (U (crc l))) ∧ w = w' := by
  go_enter Try.func10, Try.ntmps10
  go_wp2_with (go_at_call 11; refine (update_any _ 0#32 rfl _ _ _ l _ hn hl).mono ?_; rintro e w' ⟨rfl, rfl⟩)
  go_ret
  exact ⟨rfl, rfl⟩

set_option maxHeartbeats 1000000 in
theorem refOf_any (A : Option Addr) (n c : Nat) (l : List UInt8) (w : World) (hn : n ≤ 4611686018427387904) (hl : Rb w A n l) :
    Calls Try.prog 9 #[.slice A n c] w fun e w' => e = .returned (.int .u32 (U (crc l))) ∧ w = w' := by
  have hll := hide hl.len
  go_enter Try.func9, Try.ntmps9
  go_wp2_with fail
  go_loop [3, 4, 5] (fun t i _ => ∃ k : Nat, k ≤ n ∧ i = .int .i64 k ∧ t = .int .u32 (U (run ones (l.take k)))) (fun _ i _ => n - (intOf i).toNat)
  case atStart => exact ⟨0, Nat.zero_le _, rfl, rfl⟩
  case round =>
    obtain ⟨k, hk, rfl, rfl⟩ := hrel
    by_cases hlt : k < n
    · obtain ⟨b, o, rfl, _, hcl⟩ := hl.at_ (by omega)
      have hc := hcl k hlt
      clear hcl
      have HS := hide (run_take ones l k (by have := hll.out; omega))
      obtain ⟨y, hy⟩ : ∃ y, y = l.getD k 0 := ⟨_, rfl⟩
      rw [← hy] at hc HS
      clear hy hl
      go_wp2_with fail
      go_loop [3, 5] (fun t i => ∃ j : Nat, j ≤ 8 ∧ i = .int .i64 j ∧ t = .int .u32 (U (stepN j (run ones (l.take k) ^^^ hi8 y)))) (fun _ i => 8 - (intOf i).toNat)
      case atStart => exact ⟨0, Nat.zero_le _, rfl, congrArg (Value.int .u32) (hi8_form (run ones (l.take k)) y)⟩
      case round =>
        obtain ⟨j, hj, rfl, rfl⟩ := hrel
        by_cases hjl : j < 8
        · go_wp2_with (go_at_call 18; refine (step_any _ _ rfl _).mono ?_; rintro e w' ⟨rfl, rfl⟩)
          go_round
          case rel => exact ⟨j + 1, by omega, by go_num, rfl⟩
          case measure => simp [intOf]; omega
        · obtain rfl : j = 8 := by omega
          go_wp2_with fail
          go_round
          case rel => exact ⟨k + 1, by omega, by go_num, by rw [HS.out]⟩
          case measure => simp [intOf]; omega
    · go_wp2_with fail
      go_ret
      exact ⟨ret_u32 ((not_bits' (run ones (l.take k))).trans (by rw [List.take_of_length_le (by have := hll.out; omega), crc_ones]; rfl)), rfl⟩

set_option maxHeartbeats 1000000 in
theorem refShift_any (x n : Int) (r : W32) (hx : x = U r) (w : World) :
    Calls Try.prog 17 #[.int .u32 x, .int .i64 n] w fun e w' => e = .returned (.int .u32 (U (stepN (8 * times n) r))) ∧ w = w' := by
  subst hx
  have ht : (times n : Int) = min n 100000 ∨ (n < 0 ∧ times n = 0) := by unfold times; omega
  obtain ⟨m, hm⟩ : ∃ m, m = times n := ⟨_, rfl⟩
  rw [← hm] at ht ⊢
  clear hm
  have ht1 : m ≤ 100000 := by omega
  have ht2 : ∀ k : Nat, k ≤ m → (((k : Int) < n ∧ (k : Int) < 100000) ↔ k < m) := by intro k hk; omega
  have HT := hide ht2
  have ht3 : (m : Int) ≤ 4611686018427387904 := by omega
  clear ht2 ht ht1
  go_enter Try.func17, Try.ntmps17
  go_wp2_with fail
  go_loop [0, 5, 6] (fun t i _ => ∃ k : Nat, k ≤ m ∧ i = .int .i64 k ∧ t = .int .u32 (U (stepN (8 * k) r))) (fun _ i _ => m - (intOf i).toNat)
  case atStart => exact ⟨0, Nat.zero_le _, rfl, rfl⟩
  case round =>
    obtain ⟨k, hk, rfl, rfl⟩ := hrel
    by_cases hlt : k < m
    · obtain ⟨g1, g2⟩ := (HT.out k hk).2 hlt
      go_wp2_with fail
      clear g1 g2
      go_loop [0, 6] (fun t i => ∃ j : Nat, j ≤ 8 ∧ i = .int .i64 j ∧ t = .int .u32 (U (stepN (j + 8 * k) r))) (fun _ i => 8 - (intOf i).toNat)
      case atStart => exact ⟨0, Nat.zero_le _, rfl, by rw [Nat.zero_add]⟩
      case round =>
        obtain ⟨j, hj, rfl, rfl⟩ := hrel
        by_cases hjl : j < 8
        · go_wp2_with (go_at_call 18; refine (step_any _ _ rfl _).mono ?_; rintro e w' ⟨rfl, rfl⟩)
          go_round
          case rel => exact ⟨j + 1, by omega, by go_num, by rw [show j + 1 + 8 * k = (j + 8 * k) + 1 by omega]; rfl⟩
          case measure => simp [intOf]; omega
        · obtain rfl : j = 8 := by omega
          go_wp2_with fail
          go_round
          case rel => exact ⟨k + 1, by omega, by go_num, by rw [show 8 + 8 * k = 8 * (k + 1) by omega]⟩
          case measure => simp [intOf]; omega
    · have hno : ¬ ((k : Int) < n ∧ (k : Int) < 100000) := fun h => hlt ((HT.out k hk).1 h)
      obtain rfl : k = m := by omega
      by_cases g1 : (k : Int) < n
      · have g2 : ¬ (k : Int) < 100000 := fun h => hno ⟨g1, h⟩
        clear hno
        go_wp2_with fail
        go_ret
        exact ⟨rfl, rfl⟩
      · clear hno
        go_wp2_with fail
        go_ret
        exact ⟨rfl, rfl⟩

theorem by8_fourL (r : W32) : by8 (fourL r) = [.int .u8 (U r / 16777216 % 256), .int .u8 (U r / 65536 % 256), .int .u8 (U r / 256 % 256), .int .u8 (U r % 256)] := by
  simp [by8, fourL, U]

set_option maxHeartbeats 400000 in
theorem four_any (x : Int) (r : W32) (hx : x = U r) (w : World) :
    Calls Try.prog 20 #[.int .u32 x] w fun e w' => ∃ A, e = .returned (.slice A 4 4) ∧ Rb w' A 4 (fourL r) ∧ Below w.heap.size w w' := by
  subst hx
  go_enter Try.func20, Try.ntmps20
  go_wp2
  go_ret
  refine ⟨_, rfl, ?_, (Below.refl _ _).alloc (Nat.le_refl _) _⟩
  refine ⟨by rw [by8_fourL]; rfl, fun _ => ⟨_, _, rfl, fun j u hu => ?_⟩⟩
  rw [by8_fourL] at hu
  rw [cell_of_row _ _ _ _ _ _ (heap_alloc_new w _), ← hu]
  simp

end Go.Proofs.Ytkgpijojamidiaa
