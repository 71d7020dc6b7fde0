/- The walks of the reference's Seal and Open, for any bytes and any size. -/
import Derived.Test.YtkgpijojamidiaaWe
import Derived.Test.YtkgpijojamidiaaApp
namespace Go.Proofs.Ytkgpijojamidiaa
open Go.RowKit

set_option maxHeartbeats 400000 in
theorem rseal_arg (A : Option Addr) (n c : Nat) (size : Int) (w : World) (hs : size < 8 ∨ 65536 < size) :
    Calls Try.prog 13 #[.slice A n c, .int .i64 size] w fun e w' => e = .returned (.tuple #[.slice none 0 0, .int .i64 2]) ∧ w = w' := by
  rcases hs with h | h
  · have hd : decide (size < 8) = true := by simpa using h
    go_enter Try.func13, Try.ntmps13
    go_wp2_with fail
    go_ret2
    exact ⟨rfl, rfl⟩
  · have hd : decide (size < 8) = false := by simp; omega
    have hd2 : decide (65536 < size) = true := by simpa using h
    have H := hide h
    clear h
    go_enter Try.func13, Try.ntmps13
    go_wp2_with fail
    go_ret2
    exact ⟨rfl, rfl⟩

set_option maxHeartbeats 400000 in
theorem rseal_big (A : Option Addr) (n c : Nat) (size : Int) (w : World) (h1 : 8 ≤ size) (h2 : size ≤ 65536) (h3 : size - 8 < n) :
    Calls Try.prog 13 #[.slice A n c, .int .i64 size] w fun e w' => e = .returned (.tuple #[.slice none 0 0, .int .i64 5]) ∧ w = w' := by
  have hd : decide (size < 8) = false := by simp; omega
  have hd2 : decide (65536 < size) = false := by simp; omega
  go_enter Try.func13, Try.ntmps13
  go_wp2_with fail
  go_ret2
  exact ⟨rfl, rfl⟩

theorem body_form (l : List UInt8) (N m : Nat) (h : m + 8 + l.length = N) :
    [UInt8.ofNat (l.length / 256), UInt8.ofNat l.length, 0, 0] ++ l ++ List.replicate m 0 = bodyL l N := by
  unfold bodyL
  rw [show N - 8 - l.length = m by omega, List.append_assoc]

set_option maxHeartbeats 2000000 in
theorem rseal_ok (A : Option Addr) (n c : Nat) (l : List UInt8) (N : Nat) (w : World) (h1 : 8 ≤ N) (h2 : N ≤ 65536) (h3 : n + 8 ≤ N) (h : Rb w A n l) :
    Calls Try.prog 13 #[.slice A n c, .int .i64 N] w fun e w' => ∃ A' n' c', e = .returned (.tuple #[.slice A' n' c', .int .i64 0]) ∧ Rb w' A' n' (sealL l N) ∧ Below w.heap.size w w' := by
  have hd : decide ((N : Int) < 8) = false := by simp; omega
  have hd2 : decide (65536 < (N : Int)) = false := by simp; omega
  have H := hide h
  have hll := hide h.len
  clear h
  have E4 := hide (show (Value.int IntKind.u8 ((n : Int) / 256)) = .int .u8 ((UInt8.ofNat (l.length / 256)).toNat : Int) by rw [hll.out]; simp; omega)
  have E5 := hide (show (Value.int IntKind.u8 ((n : Int) % 256)) = .int .u8 ((UInt8.ofNat l.length).toNat : Int) by rw [hll.out]; simp)
  obtain ⟨m, hm⟩ : ∃ m, m + 8 + n = N := ⟨N - 8 - n, by omega⟩
  have HM := hide hm
  clear hm
  go_enter Try.func13, Try.ntmps13
  go_wp2_with (first
    | ((with_reducible show wpList _ _ _ (⟨some 31, _, _, _, _, _⟩ :: _) _ _)
       refine wpList_app rfl (.tmp 29) (.tmp 30) 22 rfl w.heap.size 5 (.int .u8 0) 1 1 Try.underlying22 info5 rfl (by omega) _ _ 4 (by8 [UInt8.ofNat (l.length / 256), UInt8.ofNat l.length, 0, 0]) rfl (by rw [E4.out, E5.out]; exact (Vk.new w 5 (by8 [UInt8.ofNat (l.length / 256), UInt8.ofNat l.length, 0, 0])).own (Nat.le_refl _) rfl (by unfold maxLen; omega)) _ n _ (by8 l) rfl (H.out.alloc _) (by8_one l) (by unfold maxLen; omega) (by omega) (by simp) ?_
       intro A1 c1 w1 hown hgr _
       have O1 := hide hown
       have hb1 : Below w.heap.size w w1 := (Below.al (Below.refl _ _) _).grown hgr (by simp) (by intro k hk; simp [Value.ownBlock] at hk; omega)
       have hl1 := hown.lt
       clear hown hgr)
    | ((with_reducible show wpList _ _ _ (⟨some 38, _, _, _, _, _⟩ :: _) _ _)
       refine wpList_app_zeros rfl (.tmp 32) (.tmp 37) 22 3 rfl w.heap.size 5 .i64 (.int .u8 0) 1 Try.underlying22 Try.underlying3 info5 rfl rfl _ _ (4 + n) _ rfl O1.out _ m rfl (by have := HM.out; omega) (by have := HM.out; unfold maxLen; omega) (by have := HM.out; omega) hb1.size ?_
       intro A2 c2 w2 hown hgr _
       rw [zeros_by8, ← by8_append, ← by8_append] at hown
       have O2 := hide hown
       have hb2 : Below w.heap.size w w2 := hb1.grown hgr hb1.size (fun k hk => (hl1 k hk).1)
       have R2 := hide (Rb.of_own hown)
       clear hown hgr)
    | (go_at_call 9
       refine (refOf_any _ _ _ (bodyL l N) _ (by have := HM.out; omega) ?_).mono ?_
       · have hr := R2.out
         rw [body_form l N m (by rw [hll.out]; have := HM.out; omega)] at hr
         exact hr
       rintro e w' ⟨rfl, rfl⟩)
    | ((with_reducible show wpList _ _ _ (⟨some 54, _, _, _, _, _⟩ :: _) _ _)
       refine wpList_app rfl (.tmp 52) (.tmp 53) 22 rfl w2.heap.size 5 (.int .u8 0) 1 1 Try.underlying22 info5 rfl (by omega) _ _ 4 (by8 (fourL (crc (bodyL l N)))) rfl (by rw [by8_fourL]; exact (Vk.new w2 5 _).own (Nat.le_refl _) rfl (by unfold maxLen; omega)) _ _ _ _ rfl (Rd.alloc R2.out _) (by8_one _) (by have := HM.out; unfold maxLen; omega) (by have := HM.out; omega) (by simp) ?_
       intro A3 c3 w3 hown hgr _
       rw [← by8_append, body_form l N m (by rw [hll.out]; have := HM.out; omega)] at hown
       have R3 := hide (Rb.of_own hown)
       have hb3 : Below w.heap.size w w3 := (Below.al hb2 _).grown hgr (by simp; have := hb2.size; omega) (by intro k hk; simp [Value.ownBlock] at hk; have := hb2.size; omega)
       clear hown hgr))
  go_ret2
  exact ⟨A3, _, c3, rfl, R3.out, hb3⟩

/-- The reference's Seal, whatever the bytes and the size. -/
theorem rseal_any (A : Option Addr) (n c : Nat) (size : Int) (l : List UInt8) (w : World) (h : Rb w A n l) :
    Calls Try.prog 13 #[.slice A n c, .int .i64 size] w fun e w' => ∃ A' n' c', e = .returned (.tuple #[.slice A' n' c', .int .i64 (sealS l size).2]) ∧ Rb w' A' n' (sealS l size).1 ∧ Below w.heap.size w w' := by
  have hl := h.len
  by_cases h1 : size < 8 ∨ 65536 < size
  · have e : sealS l size = ([], 2) := by unfold sealS; rw [if_pos h1]
    rw [e]
    exact (rseal_arg A n c size w h1).mono fun e w' ⟨he, hw⟩ => ⟨none, 0, 0, he, Rb.none_ _ _, hw ▸ Below.refl _ _⟩
  · by_cases h2 : size - 8 < (n : Int)
    · have e : sealS l size = ([], 5) := by unfold sealS; rw [if_neg h1, if_pos (by rw [hl]; exact h2)]
      rw [e]
      exact (rseal_big A n c size w (by omega) (by omega) h2).mono fun e w' ⟨he, hw⟩ => ⟨none, 0, 0, he, Rb.none_ _ _, hw ▸ Below.refl _ _⟩
    · have e : sealS l size = (sealL l size.toNat, 0) := by unfold sealS; rw [if_neg h1, if_neg (by rw [hl]; exact h2)]
      rw [e]
      obtain ⟨N, rfl⟩ : ∃ N : Nat, size = N := ⟨size.toNat, by omega⟩
      rw [Int.toNat_natCast]
      exact rseal_ok A n c l N w (by omega) (by omega) (by omega) h
/-- The program's Seal, whatever the bytes and the size. -/
theorem seal_any (A : Option Addr) (n c : Nat) (size : Int) (l : List UInt8) (w : World) (hn : n ≤ 1099511627776) (h : Rb w A n l) :
    Calls Try.prog 12 #[.slice A n c, .int .i64 size] w fun e w' => ∃ A' n' c', e = .returned (.tuple #[.slice A' n' c', .int .i64 (sealS l size).2]) ∧ Rb w' A' n' (sealS l size).1 ∧ Below w.heap.size w w' := by
  have hl := h.len
  by_cases h1 : size < 8 ∨ 65536 < size
  · have e : sealS l size = ([], 2) := by unfold sealS; rw [if_pos h1]
    rw [e]
    exact (seal_arg A n c size w h1).mono fun e w' ⟨he, hw⟩ => ⟨none, 0, 0, he, Rb.none_ _ _, hw ▸ Below.refl _ _⟩
  · by_cases h2 : size - 8 < (n : Int)
    · have e : sealS l size = ([], 5) := by unfold sealS; rw [if_neg h1, if_pos (by rw [hl]; exact h2)]
      rw [e]
      exact (seal_big A n c size w (by omega) (by omega) h2 hn).mono fun e w' ⟨he, hw⟩ => ⟨none, 0, 0, he, Rb.none_ _ _, hw ▸ Below.refl _ _⟩
    · have e : sealS l size = (sealL l size.toNat, 0) := by unfold sealS; rw [if_neg h1, if_neg (by rw [hl]; exact h2)]
      rw [e]
      obtain ⟨N, rfl⟩ : ∃ N : Nat, size = N := ⟨size.toNat, by omega⟩
      rw [Int.toNat_natCast]
      exact (seal_ok A n c l N w (by omega) (by omega) (by omega) h).mono fun e w' ⟨g, he, _, hv, hb⟩ => ⟨_, N, N, he, sealed_rb hv (by omega), hb⟩

set_option maxHeartbeats 400000 in
theorem ropen_arg (A : Option Addr) (n c : Nat) (size : Int) (w : World) (hs : size < 8 ∨ 65536 < size) :
    Calls Try.prog 15 #[.slice A n c, .int .i64 size] w fun e w' => e = .returned (.tuple #[.slice none 0 0, .int .i64 2]) ∧ w = w' := by
  rcases hs with h | h
  · have hd : decide (size < 8) = true := by simpa using h
    go_enter Try.func15, Try.ntmps15
    go_wp2_with fail
    go_ret2
    exact ⟨rfl, rfl⟩
  · have hd : decide (size < 8) = false := by simp; omega
    have hd2 : decide (65536 < size) = true := by simpa using h
    have H := hide h
    clear h
    go_enter Try.func15, Try.ntmps15
    go_wp2_with fail
    go_ret2
    exact ⟨rfl, rfl⟩

set_option maxHeartbeats 400000 in
theorem ropen_cut (A : Option Addr) (n c : Nat) (size : Int) (w : World) (h1 : 8 ≤ size) (h2 : size ≤ 65536) (h3 : (n : Int) ≠ size) :
    Calls Try.prog 15 #[.slice A n c, .int .i64 size] w fun e w' => e = .returned (.tuple #[.slice none 0 0, .int .i64 3]) ∧ w = w' := by
  have hd : decide (size < 8) = false := by simp; omega
  have hd2 : decide (65536 < size) = false := by simp; omega
  have hd3 : ((n : Int) != size) = true := by simpa using h3
  go_enter Try.func15, Try.ntmps15
  go_wp2_with fail
  go_ret2
  exact ⟨rfl, rfl⟩

set_option maxHeartbeats 2000000 in
theorem ropen_sum (A : Option Addr) (n c : Nat) (l : List UInt8) (w : World) (h1 : 8 ≤ n) (h2 : n ≤ 65536) (hnc : n ≤ c) (h : Rb w A n l) (hbad : ¬ l.take 4 = fourL (crc (l.drop 4))) :
    Calls Try.prog 15 #[.slice A n c, .int .i64 n] w fun e w' => e = .returned (.tuple #[.slice none 0 0, .int .i64 10]) ∧ Below w.heap.size w w' := by
  have hd : decide ((n : Int) < 8) = false := by simp; omega
  have hd2 : decide (65536 < (n : Int)) = false := by simp; omega
  have s2 := run_lo slice22 size5 A n c 4 4 rfl (by omega)
  have R2 := hide (h.lo_ 4 c (by omega) hnc)
  have hs := sum_iff l (crc (l.drop 4)) (by have := h.len; omega)
  rw [hs] at hbad
  clear hs
  obtain ⟨b, o, rfl, hb, hc⟩ := h.at_ (by omega)
  have c0 : w.cell? ⟨b, o, none⟩ = some (.int .u8 ((l.getD 0 0).toNat : Int)) := hc 0 (by omega)
  have c1 := hc 1 (by omega)
  have c2 := hc 2 (by omega)
  have c3 := hc 3 (by omega)
  clear hc h
  obtain ⟨y0, hy0⟩ : ∃ y, y = l.getD 0 0 := ⟨_, rfl⟩
  obtain ⟨y1, hy1⟩ : ∃ y, y = l.getD 1 0 := ⟨_, rfl⟩
  obtain ⟨y2, hy2⟩ : ∃ y, y = l.getD 2 0 := ⟨_, rfl⟩
  obtain ⟨y3, hy3⟩ : ∃ y, y = l.getD 3 0 := ⟨_, rfl⟩
  rw [← hy0] at c0 hbad
  rw [← hy1] at c1 hbad
  rw [← hy2] at c2 hbad
  rw [← hy3] at c3 hbad
  clear hy0 hy1 hy2 hy3
  obtain ⟨S, hS⟩ : ∃ S, S = crc (l.drop 4) := ⟨_, rfl⟩
  rw [← hS] at hbad
  have HS := hide hS
  clear hS
  have hbad' : ¬ ((y0.toNat : Int) = U S / 16777216 % 256 ∧ (y1.toNat : Int) = U S / 65536 % 256 ∧ (y2.toNat : Int) = U S / 256 % 256 ∧ (y3.toNat : Int) = U S % 256) := hbad
  have HB := hide hbad'
  clear hbad hbad'
  by_cases g0 : (y0.toNat : Int) = U S / 16777216 % 256
  · have b0 : ((y0.toNat : Int) != U S / 16777216 % 256) = false := by simpa using g0
    have G0 := hide g0
    clear g0
    by_cases g1 : (y1.toNat : Int) = U S / 65536 % 256
    · have b1 : ((y1.toNat : Int) != U S / 65536 % 256) = false := by simpa using g1
      have G1 := hide g1
      clear g1
      by_cases g2 : (y2.toNat : Int) = U S / 256 % 256
      · have b2 : ((y2.toNat : Int) != U S / 256 % 256) = false := by simpa using g2
        have G2 := hide g2
        clear g2
        have b3 : ((y3.toNat : Int) != U S % 256) = true := by
          rw [bne_iff_ne]; exact fun g3 => HB.out ⟨G0.out, G1.out, G2.out, g3⟩
        go_enter Try.func15, Try.ntmps15
        go_wp2_with (go_at_call 9; refine (refOf_any _ _ _ (l.drop 4) _ (by omega) ?_).mono ?_; exact R2.out; rw [← HS.out]; rintro e w' ⟨rfl, rfl⟩)
        go_ret2
        exact ⟨rfl, Below.refl _ _⟩
      · have b2 : ((y2.toNat : Int) != U S / 256 % 256) = true := by simpa using g2
        have G2 := hide g2
        clear g2
        go_enter Try.func15, Try.ntmps15
        go_wp2_with (go_at_call 9; refine (refOf_any _ _ _ (l.drop 4) _ (by omega) ?_).mono ?_; exact R2.out; rw [← HS.out]; rintro e w' ⟨rfl, rfl⟩)
        go_ret2
        exact ⟨rfl, Below.refl _ _⟩
    · have b1 : ((y1.toNat : Int) != U S / 65536 % 256) = true := by simpa using g1
      have G1 := hide g1
      clear g1
      go_enter Try.func15, Try.ntmps15
      go_wp2_with (go_at_call 9; refine (refOf_any _ _ _ (l.drop 4) _ (by omega) ?_).mono ?_; exact R2.out; rw [← HS.out]; rintro e w' ⟨rfl, rfl⟩)
      go_ret2
      exact ⟨rfl, Below.refl _ _⟩
  · have b0 : ((y0.toNat : Int) != U S / 16777216 % 256) = true := by simpa using g0
    have G0 := hide g0
    clear g0
    go_enter Try.func15, Try.ntmps15
    go_wp2_with (go_at_call 9; refine (refOf_any _ _ _ (l.drop 4) _ (by omega) ?_).mono ?_; exact R2.out; rw [← HS.out]; rintro e w' ⟨rfl, rfl⟩)
    go_ret2
    exact ⟨rfl, Below.refl _ _⟩

end Go.Proofs.Ytkgpijojamidiaa
