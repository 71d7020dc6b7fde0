/- The walk of the program's Open, for any bytes and any size. -/
import Derived.Test.YtkgpijojamidiaaWb
import Derived.Deep.RegionHeld3
import Derived.Deep.QuietTactic
import Derived.BigQuiet
namespace Go.Proofs.Ytkgpijojamidiaa
open Go.RowKit

theorem or_byte (a b : UInt8) : bits .or .i64 ((a.toNat : Int) * 256) (b.toNat : Int) = ((256 * a.toNat + b.toNat : Nat) : Int) := by
  have ha := a.toNat_lt
  have hb := b.toNat_lt
  have e : (a.toNat * 256) ||| b.toNat = 256 * a.toNat + b.toNat := by
    have := Nat.two_pow_add_eq_or_of_lt (i := 8) (b := b.toNat) (by omega) a.toNat
    rw [show a.toNat * 256 = 2 ^ 8 * a.toNat by omega, ← this]
  show IntKind.i64.wrap ((BitVec.ofInt 64 ((a.toNat : Int) * 256) ||| BitVec.ofInt 64 (b.toNat : Int)).toNat : Int) = _
  rw [show (a.toNat : Int) * 256 = ((a.toNat * 256 : Nat) : Int) by omega, BitVec.ofInt_natCast, BitVec.ofInt_natCast, BitVec.toNat_or, BitVec.toNat_ofNat, BitVec.toNat_ofNat,
    Nat.mod_eq_of_lt (show a.toNat * 256 < 2 ^ 64 by omega), Nat.mod_eq_of_lt (show b.toNat < 2 ^ 64 by omega), e, IntKind.wrap_i64]
  omega

set_option maxHeartbeats 400000 in
theorem open_arg (A : Option Addr) (n c : Nat) (size : Int) (w : World) (hs : size < 8 ∨ 65536 < size) :
    Calls Try.prog 14 #[.slice A n c, .int .i64 size] w fun e w' => e = .returned (.tuple #[.slice none 0 0, .int .i64 2]) ∧ w = w' := by
  rcases hs with h | h
  · have hd : decide (size < 8) = true := by simpa using h
    go_enter Try.func14, Try.ntmps14
    go_wp2_with fail
    go_ret2
    exact ⟨rfl, rfl⟩
  · have hd : decide (size < 8) = false := by simp; omega
    have hd2 : decide (65536 < size) = true := by simpa using h
    have H := hide h
    clear h
    go_enter Try.func14, Try.ntmps14
    go_wp2_with fail
    go_ret2
    exact ⟨rfl, rfl⟩

set_option maxHeartbeats 400000 in
theorem open_cut (A : Option Addr) (n c : Nat) (size : Int) (w : World) (h1 : 8 ≤ size) (h2 : size ≤ 65536) (h3 : (n : Int) ≠ size) :
    Calls Try.prog 14 #[.slice A n c, .int .i64 size] w fun e w' => e = .returned (.tuple #[.slice none 0 0, .int .i64 3]) ∧ w = w' := by
  have hd : decide (size < 8) = false := by simp; omega
  have hd2 : decide (65536 < size) = false := by simp; omega
  have hd3 : ((n : Int) != size) = true := by simpa using h3
  go_enter Try.func14, Try.ntmps14
  go_wp2_with fail
  go_ret2
  exact ⟨rfl, rfl⟩

set_option maxHeartbeats 1000000 in
theorem open_sum (A : Option Addr) (n c : Nat) (l : List UInt8) (w : World) (h1 : 8 ≤ n) (h2 : n ≤ 65536) (hnc : n ≤ c) (h : Rb w A n l) (hbad : (l.take 4 == fourL (crc (l.drop 4))) = false) :
    Calls Try.prog 14 #[.slice A n c, .int .i64 n] w fun e w' => e = .returned (.tuple #[.slice none 0 0, .int .i64 10]) ∧ Below w.heap.size w w' := by
  have hd : decide ((n : Int) < 8) = false := by simp; omega
  have hd2 : decide (65536 < (n : Int)) = false := by simp; omega
  have s1 := run_hi slice22 size5 A n c 4 4 rfl (by omega)
  have s2 := run_lo slice22 size5 A n c 4 4 rfl (by omega)
  have R1 := hide (h.hi_ 4 c (by omega) hnc)
  have R2 := hide (h.lo_ 4 c (by omega) hnc)
  clear h
  go_enter Try.func14, Try.ntmps14
  go_wp2_with fail
  go_region_held3 (fun _ => True) (trivial)
    (first
      | (go_at_call 10; refine (of_any _ _ _ (l.drop 4) _ (by omega) ?_).mono ?_; exact R2.out; rintro e w' ⟨rfl, rfl⟩)
      | (go_at_call 20; refine (four_any _ (crc (l.drop 4)) rfl _).mono ?_; rintro e w3 ⟨A4, rfl, hr4, hb4⟩)
      | (go_at_call 21; refine (equal_any _ _ _ _ _ _ (l.take 4) (fourL (crc (l.drop 4))) _ ?_ ?_).mono ?_; exact Rb.below (w := w.drew) R1.out hb4; exact hr4; rintro e w' ⟨rfl, rfl⟩))
  go_wp2_with fail
  go_ret2
  exact ⟨rfl, ((Below.refl _ _).drew).trans hb4⟩

theorem below_draws {w w3 : World} (hb : Below w.drew.heap.size w.drew w3) {a b : Nat} : Below w.heap.size w ((w3.drewN a).drewN b) := Below.drewN' (Below.drewN' (((Below.refl _ _).drew).trans hb) _) _
theorem below_draw1 {w w3 : World} (hb : Below w.drew.heap.size w.drew w3) {a : Nat} : Below w.heap.size w (w3.drewN a) := Below.drewN' (((Below.refl _ _).drew).trans hb) _
theorem or_ne (a b : UInt8) : (bits .or .u8 (a.toNat : Int) (b.toNat : Int) != 0) = !(a == 0 && b == 0) := by
  rw [u8_or_nat _ _ a.toNat_lt b.toNat_lt, Bool.eq_iff_iff]
  have e : (a.toNat ||| b.toNat = 0) ↔ (a = 0 ∧ b = 0) := by
    rw [Nat.or_eq_zero_iff, ← UInt8.toNat_inj, ← UInt8.toNat_inj]; rfl
  simp only [bne_iff_ne, ne_eq, Bool.not_eq_true', Bool.and_eq_false_iff, beq_eq_false_iff_ne]
  rw [show (((a.toNat ||| b.toNat : Nat) : Int) = 0) ↔ (a.toNat ||| b.toNat = 0) by omega, e]
  by_cases h : a = 0 <;> simp [h]

def AllZ (T : List UInt8) : Prop := ∀ c ∈ T, c = 0
def Zup (T : List UInt8) (k : Nat) : Prop := ∀ j, j < k → T.getD j 0 = 0
theorem Zup_succ {T : List UInt8} {k : Nat} (h : Zup T k) (h0 : T.getD k 0 = 0) : Zup T (k + 1) := fun j hj => by
  rcases Nat.lt_or_ge j k with h' | h'
  · exact h j h'
  · rw [show j = k by omega]; exact h0
theorem Zup_all {T : List UInt8} {k : Nat} (h : Zup T k) (hk : T.length ≤ k) : AllZ T := by
  intro c hc
  obtain ⟨j, hj, rfl⟩ := List.mem_iff_getElem.1 hc
  have := h j (by omega)
  rwa [getD_lt T j hj] at this
theorem Zup_not {T : List UInt8} {k : Nat} (hk : k < T.length) (h0 : T.getD k 0 ≠ 0) : ¬ AllZ T := fun h => h0 (by
  rw [getD_lt T k hk]; exact h _ (List.getElem_mem hk))

-- The sum fits: what the length and the rest say.
set_option maxHeartbeats 2000000 in
theorem open_len (A : Option Addr) (n c : Nat) (l : List UInt8) (w : World) (h1 : 8 ≤ n) (h2 : n ≤ 65536) (hnc : n ≤ c) (h : Rb w A n l) (hgood : (l.take 4 == fourL (crc (l.drop 4))) = true) (hbig : n < lenOf l + 8) :
    Calls Try.prog 14 #[.slice A n c, .int .i64 n] w fun e w' => e = .returned (.tuple #[.slice none 0 0, .int .i64 4]) ∧ Below w.heap.size w w' := by
  have hd : decide ((n : Int) < 8) = false := by simp; omega
  have hd2 : decide (65536 < (n : Int)) = false := by simp; omega
  have s1 := run_hi slice22 size5 A n c 4 4 rfl (by omega)
  have s2 := run_lo slice22 size5 A n c 4 4 rfl (by omega)
  have R1 := hide (h.hi_ 4 c (by omega) hnc)
  have R2 := hide (h.lo_ 4 c (by omega) hnc)
  obtain ⟨b, o, rfl, hb, hc⟩ := h.at_ (by omega)
  have c4 := hc 4 (by omega)
  have c5 := hc 5 (by omega)
  clear hc h
  obtain ⟨m, hm⟩ : ∃ m, m = lenOf l := ⟨_, rfl⟩
  rw [← hm] at hbig
  unfold lenOf at hm
  obtain ⟨y4, hy4⟩ : ∃ y, y = l.getD 4 0 := ⟨_, rfl⟩
  obtain ⟨y5, hy5⟩ : ∃ y, y = l.getD 5 0 := ⟨_, rfl⟩
  rw [← hy4] at c4 hm
  rw [← hy5] at c5 hm
  have b4 := y4.toNat_lt
  have b5 := y5.toNat_lt
  have E4 := hide (show wrap64 (y4.toNat : Int) = (y4.toNat : Int) by unfold wrap64; omega)
  have E4' := hide (show wrap64 ((y4.toNat : Int) * 256) = (y4.toNat : Int) * 256 by unfold wrap64; omega)
  have E5 := hide (show wrap64 (y5.toNat : Int) = (y5.toNat : Int) by unfold wrap64; omega)
  have EM := hide (show bits .or .i64 ((y4.toNat : Int) * 256) (y5.toNat : Int) = (m : Int) by rw [hm]; exact or_byte y4 y5)
  have hd5 : decide ((n : Int) - 8 < (m : Int)) = true := by simp; omega
  clear hm hy4 hy5
  go_enter Try.func14, Try.ntmps14
  go_wp2_with fail
  go_region_held3 (fun _ => True) (trivial)
    (first
      | (go_at_call 10; refine (of_any _ _ _ (l.drop 4) _ (by omega) ?_).mono ?_; exact R2.out; rintro e w' ⟨rfl, rfl⟩)
      | (go_at_call 20; refine (four_any _ (crc (l.drop 4)) rfl _).mono ?_; rintro e w3 ⟨A4, rfl, hr4, hb4⟩)
      | (go_at_call 21; refine (equal_any _ _ _ _ _ _ (l.take 4) (fourL (crc (l.drop 4))) _ ?_ ?_).mono ?_; exact Rb.below (w := w.drew) R1.out hb4; exact hr4; rintro e w' ⟨rfl, rfl⟩))
  have d4 : w3.cell? ⟨b, o + 4, none⟩ = some (.int .u8 (y4.toNat : Int)) := (hb4.cell (p := ⟨b, o + 4, none⟩) hb).trans c4
  have d5 : w3.cell? ⟨b, o + 5, none⟩ = some (.int .u8 (y5.toNat : Int)) := (hb4.cell (p := ⟨b, o + 5, none⟩) hb).trans c5
  go_wp2_with fail
  have q1 := E4.out
  have q2 := E4'.out
  have q3 := E5.out
  have q4 := EM.out
  go_quiet (fail)
  clear q1 q2 q3 q4
  go_wp2_with fail
  have ew : IntKind.i64.wrap ((n : Int) - 8) = (n : Int) - 8 := IntWalk.i64_in _ (by omega)
  go_quiet (fail)
  clear ew
  go_wp2_with fail
  go_ret2
  exact ⟨rfl, below_draws hb4⟩

set_option maxHeartbeats 2000000 in
theorem open_six (A : Option Addr) (n c : Nat) (l : List UInt8) (w : World) (h1 : 8 ≤ n) (h2 : n ≤ 65536) (hnc : n ≤ c) (h : Rb w A n l) (hgood : (l.take 4 == fourL (crc (l.drop 4))) = true) (hbig : lenOf l + 8 ≤ n) (h67 : ¬ (l.getD 6 0 = 0 ∧ l.getD 7 0 = 0)) :
    Calls Try.prog 14 #[.slice A n c, .int .i64 n] w fun e w' => e = .returned (.tuple #[.slice none 0 0, .int .i64 4]) ∧ Below w.heap.size w w' := by
  have hd : decide ((n : Int) < 8) = false := by simp; omega
  have hd2 : decide (65536 < (n : Int)) = false := by simp; omega
  have s1 := run_hi slice22 size5 A n c 4 4 rfl (by omega)
  have s2 := run_lo slice22 size5 A n c 4 4 rfl (by omega)
  have R1 := hide (h.hi_ 4 c (by omega) hnc)
  have R2 := hide (h.lo_ 4 c (by omega) hnc)
  obtain ⟨b, o, rfl, hb, hc⟩ := h.at_ (by omega)
  have c4 := hc 4 (by omega)
  have c5 := hc 5 (by omega)
  have c6 := hc 6 (by omega)
  have c7 := hc 7 (by omega)
  clear hc h
  obtain ⟨m, hm⟩ : ∃ m, m = lenOf l := ⟨_, rfl⟩
  rw [← hm] at hbig
  unfold lenOf at hm
  obtain ⟨y4, hy4⟩ : ∃ y, y = l.getD 4 0 := ⟨_, rfl⟩
  obtain ⟨y5, hy5⟩ : ∃ y, y = l.getD 5 0 := ⟨_, rfl⟩
  obtain ⟨y6, hy6⟩ : ∃ y, y = l.getD 6 0 := ⟨_, rfl⟩
  obtain ⟨y7, hy7⟩ : ∃ y, y = l.getD 7 0 := ⟨_, rfl⟩
  rw [← hy6] at c6 h67
  rw [← hy7] at c7 h67
  have E67 : (bits .or .u8 (y6.toNat : Int) (y7.toNat : Int) != 0) = true := by
    rw [or_ne, Bool.not_eq_true', Bool.and_eq_false_iff]
    by_cases hh : y6 = 0
    · right; simpa using fun h' => h67 ⟨hh, h'⟩
    · left; simpa using hh
  rw [← hy4] at c4 hm
  rw [← hy5] at c5 hm
  have b4 := y4.toNat_lt
  have b5 := y5.toNat_lt
  have E4 := hide (show wrap64 (y4.toNat : Int) = (y4.toNat : Int) by unfold wrap64; omega)
  have E4' := hide (show wrap64 ((y4.toNat : Int) * 256) = (y4.toNat : Int) * 256 by unfold wrap64; omega)
  have E5 := hide (show wrap64 (y5.toNat : Int) = (y5.toNat : Int) by unfold wrap64; omega)
  have EM := hide (show bits .or .i64 ((y4.toNat : Int) * 256) (y5.toNat : Int) = (m : Int) by rw [hm]; exact or_byte y4 y5)
  have hd5 : decide ((n : Int) - 8 < (m : Int)) = false := by simp; omega
  clear hm hy4 hy5 hy6 hy7 h67
  go_enter Try.func14, Try.ntmps14
  go_wp2_with fail
  go_region_held3 (fun _ => True) (trivial)
    (first
      | (go_at_call 10; refine (of_any _ _ _ (l.drop 4) _ (by omega) ?_).mono ?_; exact R2.out; rintro e w' ⟨rfl, rfl⟩)
      | (go_at_call 20; refine (four_any _ (crc (l.drop 4)) rfl _).mono ?_; rintro e w3 ⟨A4, rfl, hr4, hb4⟩)
      | (go_at_call 21; refine (equal_any _ _ _ _ _ _ (l.take 4) (fourL (crc (l.drop 4))) _ ?_ ?_).mono ?_; exact Rb.below (w := w.drew) R1.out hb4; exact hr4; rintro e w' ⟨rfl, rfl⟩))
  have d4 : w3.cell? ⟨b, o + 4, none⟩ = some (.int .u8 (y4.toNat : Int)) := (hb4.cell (p := ⟨b, o + 4, none⟩) hb).trans c4
  have d6 : w3.cell? ⟨b, o + 6, none⟩ = some (.int .u8 (y6.toNat : Int)) := (hb4.cell (p := ⟨b, o + 6, none⟩) hb).trans c6
  have d7 : w3.cell? ⟨b, o + 7, none⟩ = some (.int .u8 (y7.toNat : Int)) := (hb4.cell (p := ⟨b, o + 7, none⟩) hb).trans c7
  have d5 : w3.cell? ⟨b, o + 5, none⟩ = some (.int .u8 (y5.toNat : Int)) := (hb4.cell (p := ⟨b, o + 5, none⟩) hb).trans c5
  go_wp2_with fail
  have q1 := E4.out
  have q2 := E4'.out
  have q3 := E5.out
  have q4 := EM.out
  go_quiet (fail)
  clear q1 q2 q3 q4
  go_wp2_with fail
  have ew : IntKind.i64.wrap ((n : Int) - 8) = (n : Int) - 8 := IntWalk.i64_in _ (by omega)
  go_quiet (fail)
  clear ew
  go_wp2_with fail
  go_ret2
  exact ⟨rfl, below_draws hb4⟩

set_option maxHeartbeats 2000000 in
theorem open_tail (A : Option Addr) (n c : Nat) (l : List UInt8) (w : World) (h1 : 8 ≤ n) (h2 : n ≤ 65536) (hnc : n ≤ c) (h : Rb w A n l) (hgood : (l.take 4 == fourL (crc (l.drop 4))) = true) (hbig : lenOf l + 8 ≤ n) (h67 : l.getD 6 0 = 0 ∧ l.getD 7 0 = 0) :
    Calls Try.prog 14 #[.slice A n c, .int .i64 n] w fun e w' => (AllZ (l.drop (8 + lenOf l)) ∧ ∃ A' c', e = .returned (.tuple #[.slice A' (lenOf l) c', .int .i64 0]) ∧ Rb w' A' (lenOf l) (textOf l) ∧ Below w.heap.size w w') ∨ (¬ AllZ (l.drop (8 + lenOf l)) ∧ e = .returned (.tuple #[.slice none 0 0, .int .i64 4]) ∧ Below w.heap.size w w') := by
  have hd : decide ((n : Int) < 8) = false := by simp; omega
  have hd2 : decide (65536 < (n : Int)) = false := by simp; omega
  have s1 := run_hi slice22 size5 A n c 4 4 rfl (by omega)
  have s2 := run_lo slice22 size5 A n c 4 4 rfl (by omega)
  have R1 := hide (h.hi_ 4 c (by omega) hnc)
  have R2 := hide (h.lo_ 4 c (by omega) hnc)
  obtain ⟨b, o, rfl, hb, hc⟩ := h.at_ (by omega)
  have c4 := hc 4 (by omega)
  have c5 := hc 5 (by omega)
  have c6 := hc 6 (by omega)
  have c7 := hc 7 (by omega)
  have HC := hide hc
  have RT := hide (h.lohi_ 8 (8 + lenOf l) c (by omega) (by omega) hnc)
  have hll := hide h.len
  clear hc h
  obtain ⟨m, hm⟩ : ∃ m, m = lenOf l := ⟨_, rfl⟩
  rw [← hm] at hbig RT ⊢
  have HM := hide hm
  unfold lenOf at hm
  obtain ⟨y4, hy4⟩ : ∃ y, y = l.getD 4 0 := ⟨_, rfl⟩
  obtain ⟨y5, hy5⟩ : ∃ y, y = l.getD 5 0 := ⟨_, rfl⟩
  obtain ⟨y6, hy6⟩ : ∃ y, y = l.getD 6 0 := ⟨_, rfl⟩
  obtain ⟨y7, hy7⟩ : ∃ y, y = l.getD 7 0 := ⟨_, rfl⟩
  rw [← hy6] at c6 h67
  rw [← hy7] at c7 h67
  have E67 : (bits .or .u8 (y6.toNat : Int) (y7.toNat : Int) != 0) = false := by rw [or_ne, h67.1, h67.2]; rfl
  rw [← hy4] at c4 hm
  rw [← hy5] at c5 hm
  have b4 := y4.toNat_lt
  have b5 := y5.toNat_lt
  have E4 := hide (show wrap64 (y4.toNat : Int) = (y4.toNat : Int) by unfold wrap64; omega)
  have E4' := hide (show wrap64 ((y4.toNat : Int) * 256) = (y4.toNat : Int) * 256 by unfold wrap64; omega)
  have E5 := hide (show wrap64 (y5.toNat : Int) = (y5.toNat : Int) by unfold wrap64; omega)
  have EM := hide (show bits .or .i64 ((y4.toNat : Int) * 256) (y5.toNat : Int) = (m : Int) by rw [hm]; exact or_byte y4 y5)
  have hd5 : decide ((n : Int) - 8 < (m : Int)) = false := by simp; omega
  clear hm hy4 hy5 hy6 hy7 h67
  have s3 := run_lo slice22 size5 (some ⟨b, o, none⟩) n c (8 + m) (8 + (m : Int)) (by omega) (by omega)
  have s4 := run_lohi slice22 size5 (some ⟨b, o, none⟩) n c 8 (8 + m) 8 (8 + (m : Int)) rfl (by omega) (by omega) (by omega)
  obtain ⟨A8, hA8⟩ : ∃ X, X = cutA (some ⟨b, o, none⟩) c (8 + m) := ⟨_, rfl⟩
  rw [← hA8] at s3
  have HA8 := hide (show 8 + m < n → A8 = some ⟨b, o + (8 + m), none⟩ from fun h => by rw [hA8]; exact cutA_at _ _ _ _ (by omega))
  clear hA8
  obtain ⟨T, hT⟩ : ∃ T, T = l.drop (8 + m) := ⟨_, rfl⟩
  have hTl : T.length = n - (8 + m) := by rw [hT, List.length_drop, hll.out]
  have HT := hide (show ∀ k, k < n - (8 + m) → T.getD k 0 = l.getD (8 + m + k) 0 from fun k hk => by rw [hT]; simp [List.getD])
  rw [← hT]
  clear hT
  have HTL := hide hTl
  clear hTl
  go_enter Try.func14, Try.ntmps14
  go_wp2_with fail
  go_region_held3 (fun _ => True) (trivial)
    (first
      | (go_at_call 10; refine (of_any _ _ _ (l.drop 4) _ (by omega) ?_).mono ?_; exact R2.out; rintro e w' ⟨rfl, rfl⟩)
      | (go_at_call 20; refine (four_any _ (crc (l.drop 4)) rfl _).mono ?_; rintro e w3 ⟨A4, rfl, hr4, hb4⟩)
      | (go_at_call 21; refine (equal_any _ _ _ _ _ _ (l.take 4) (fourL (crc (l.drop 4))) _ ?_ ?_).mono ?_; exact Rb.below (w := w.drew) R1.out hb4; exact hr4; rintro e w' ⟨rfl, rfl⟩))
  have d4 : w3.cell? ⟨b, o + 4, none⟩ = some (.int .u8 (y4.toNat : Int)) := (hb4.cell (p := ⟨b, o + 4, none⟩) hb).trans c4
  have d6 : w3.cell? ⟨b, o + 6, none⟩ = some (.int .u8 (y6.toNat : Int)) := (hb4.cell (p := ⟨b, o + 6, none⟩) hb).trans c6
  have d7 : w3.cell? ⟨b, o + 7, none⟩ = some (.int .u8 (y7.toNat : Int)) := (hb4.cell (p := ⟨b, o + 7, none⟩) hb).trans c7
  have d5 : w3.cell? ⟨b, o + 5, none⟩ = some (.int .u8 (y5.toNat : Int)) := (hb4.cell (p := ⟨b, o + 5, none⟩) hb).trans c5
  go_wp2_with fail
  have q1 := E4.out
  have q2 := E4'.out
  have q3 := E5.out
  have q4 := EM.out
  go_quiet (fail)
  clear q1 q2 q3 q4
  go_wp2_with fail
  have ew : IntKind.i64.wrap ((n : Int) - 8) = (n : Int) - 8 := IntWalk.i64_in _ (by omega)
  go_quiet (fail)
  clear ew
  go_wp2_with fail
  clear d4 d5 d6 d7 c4 c5 c6 c7 hd hd2 hd5 E67 s1 s2 E4 E4' E5 EM R1 R2 hgood
  go_loop [8, 59] (fun _ i => ∃ k : Nat, k ≤ n - (8 + m) ∧ i = .int .i64 k ∧ Zup T k) (fun _ i => n - (8 + m) - (intOf i).toNat)
  case atStart => exact ⟨0, Nat.zero_le _, rfl, fun j hj => absurd hj (by omega)⟩
  case round =>
    obtain ⟨k, hk, rfl, hz⟩ := hrel
    have HZ := hide hz
    clear hz
    by_cases hlt : k < n - (8 + m)
    · have hA := HA8.out (by omega)
      subst hA
      obtain ⟨y, hy⟩ : ∃ y, y = T.getD k 0 := ⟨_, rfl⟩
      have d8 : w3.cell? ⟨b, o + (8 + m) + k, none⟩ = some (.int .u8 (y.toNat : Int)) := by
        rw [hy, HT.out k hlt, show o + (8 + m) + k = o + (8 + m + k) by omega]
        exact (hb4.cell (p := ⟨b, o + (8 + m + k), none⟩) hb).trans (HC.out _ (by omega))
      have HY := hide hy
      clear hy
      by_cases h0 : y = 0
      · have hz0 : ((y.toNat : Int) != 0) = false := by rw [h0]; rfl
        have H0 := hide h0
        clear h0
        go_wp2_with fail
        go_round
        case rel => exact ⟨k + 1, by omega, by go_num, Zup_succ HZ.out (HY.out.symm.trans H0.out)⟩
        case measure => simp [intOf]; omega
      · have hz0 : ((y.toNat : Int) != 0) = true := by
          rw [bne_iff_ne]; intro h; apply h0; apply UInt8.toNat_inj.1; simp; omega
        have H0 := hide h0
        clear h0
        go_wp2_with fail
        go_ret2
        exact Or.inr ⟨Zup_not (HTL.out.symm ▸ hlt) (fun h => H0.out (HY.out.trans h)), rfl, below_draw1 hb4⟩
    · have hall := hide (Zup_all HZ.out (by rw [HTL.out]; omega))
      have hb5 : Below w.heap.size w w3 := ((Below.refl _ _).drew).trans hb4
      go_wp2_with (go_at_call 22; refine (clone_any _ _ _ (textOf l) _ (by omega) ?_).mono ?_; (have hr := RT.out.below hb5; rw [Nat.add_sub_cancel_left, show (l.drop 8).take m = textOf l by unfold textOf; rw [HM.out]] at hr; exact hr); rintro e w5 ⟨A5, c5, rfl, hr5, hb6⟩)
      go_ret2
      exact Or.inl ⟨hall.out, A5, c5, rfl, hr5, Below.then_ (Below.drewN' hb5 _) hb6⟩

/-- Open, whatever the bytes and the size. -/
theorem open_any (A : Option Addr) (n c : Nat) (size : Int) (l : List UInt8) (w : World) (hnc : n ≤ c) (h : Rb w A n l) :
    Calls Try.prog 14 #[.slice A n c, .int .i64 size] w fun e w' => ∃ A' n' c', e = .returned (.tuple #[.slice A' n' c', .int .i64 (openS l size).2]) ∧ Rb w' A' n' (openS l size).1 ∧ Below w.heap.size w w' := by
  have hl := h.len
  by_cases h1 : size < 8 ∨ 65536 < size
  · have e : openS l size = ([], 2) := by unfold openS; rw [if_pos h1]
    rw [e]
    exact (open_arg A n c size w h1).mono fun e w' ⟨he, hw⟩ => ⟨none, 0, 0, he, Rb.none_ _ _, hw ▸ Below.refl _ _⟩
  · by_cases h2 : (n : Int) ≠ size
    · have e : openS l size = ([], 3) := by unfold openS; rw [if_neg h1, if_pos (by rw [hl]; exact h2)]
      rw [e]
      exact (open_cut A n c size w (by omega) (by omega) h2).mono fun e w' ⟨he, hw⟩ => ⟨none, 0, 0, he, Rb.none_ _ _, hw ▸ Below.refl _ _⟩
    · obtain rfl : size = (n : Int) := by omega
      have hs : openS l n = if l.take 4 ≠ fourL (crc (l.drop 4)) then ([], 10) else if (n : Int) - 8 < (lenOf l : Int) then ([], 4) else if bodyL (textOf l) l.length ≠ l.drop 4 then ([], 4) else (textOf l, 0) := by
        unfold openS; rw [if_neg h1, if_neg (by rw [hl]; exact h2)]
      rw [hs]
      by_cases h3 : l.take 4 = fourL (crc (l.drop 4))
      · have h3' : (l.take 4 == fourL (crc (l.drop 4))) = true := by simpa using h3
        rw [if_neg (by simpa using h3)]
        by_cases h4 : (n : Int) - 8 < (lenOf l : Int)
        · rw [if_pos h4]
          exact (open_len A n c l w (by omega) (by omega) hnc h h3' (by omega)).mono fun e w' ⟨he, hw⟩ => ⟨none, 0, 0, he, Rb.none_ _ _, hw⟩
        · rw [if_neg h4]
          have hb := body_iff l (by omega) (by omega)
          by_cases h5 : l.getD 6 0 = 0 ∧ l.getD 7 0 = 0
          · refine (open_tail A n c l w (by omega) (by omega) hnc h h3' (by omega) h5).mono fun e w' hh => ?_
            rcases hh with ⟨hz, A', c', he, hr, hw⟩ | ⟨hz, he, hw⟩
            · rw [if_neg (by simpa using hb.2 ⟨h5.1, h5.2, hz⟩)]
              exact ⟨A', _, c', he, hr, hw⟩
            · rw [if_pos (fun h6 => hz (hb.1 h6).2.2)]
              exact ⟨none, 0, 0, he, Rb.none_ _ _, hw⟩
          · rw [if_pos (fun h6 => h5 ⟨(hb.1 h6).1, (hb.1 h6).2.1⟩)]
            exact (open_six A n c l w (by omega) (by omega) hnc h h3' (by omega) h5).mono fun e w' ⟨he, hw⟩ => ⟨none, 0, 0, he, Rb.none_ _ _, hw⟩
      · rw [if_pos h3]
        exact (open_sum A n c l w (by omega) (by omega) hnc h (by simpa using h3)).mono fun e w' ⟨he, hw⟩ => ⟨none, 0, 0, he, Rb.none_ _ _, hw⟩

end Go.Proofs.Ytkgpijojamidiaa
