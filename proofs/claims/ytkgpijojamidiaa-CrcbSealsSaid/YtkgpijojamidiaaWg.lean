/- The walk of the reference's Open behind a sum that fits, and of the law CrcbSeals. -/
import Derived.Test.YtkgpijojamidiaaWf
namespace Go.Proofs.Ytkgpijojamidiaa
open Go.RowKit

set_option maxHeartbeats 4000000 in
theorem ropen_len (A : Option Addr) (n c : Nat) (l : List UInt8) (w : World) (h1 : 8 ≤ n) (h2 : n ≤ 65536) (hnc : n ≤ c) (h : Rb w A n l) (hgood : l.take 4 = fourL (crc (l.drop 4))) (hbig : n < lenOf l + 8) :
    Calls Try.prog 15 #[.slice A n c, .int .i64 n] w fun e w' => e = .returned (.tuple #[.slice none 0 0, .int .i64 4]) ∧ Below w.heap.size w w' := by
  have hd : decide ((n : Int) < 8) = false := by simp; omega
  have hd2 : decide (65536 < (n : Int)) = false := by simp; omega
  have s2 := run_lo slice22 size5 A n c 4 4 rfl (by omega)
  have R2 := hide (h.lo_ 4 c (by omega) hnc)
  have hs := (sum_iff l (crc (l.drop 4)) (by have := h.len; omega)).1 hgood
  obtain ⟨b, o, rfl, hb, hc⟩ := h.at_ (by omega)
  have c0 : w.cell? ⟨b, o, none⟩ = some (.int .u8 ((l.getD 0 0).toNat : Int)) := hc 0 (by omega)
  have c1 := hc 1 (by omega)
  have c2 := hc 2 (by omega)
  have c3 := hc 3 (by omega)
  have c4 := hc 4 (by omega)
  have c5 := hc 5 (by omega)
  clear hc h
  obtain ⟨y0, hy0⟩ : ∃ y, y = l.getD 0 0 := ⟨_, rfl⟩
  obtain ⟨y1, hy1⟩ : ∃ y, y = l.getD 1 0 := ⟨_, rfl⟩
  obtain ⟨y2, hy2⟩ : ∃ y, y = l.getD 2 0 := ⟨_, rfl⟩
  obtain ⟨y3, hy3⟩ : ∃ y, y = l.getD 3 0 := ⟨_, rfl⟩
  obtain ⟨y4, hy4⟩ : ∃ y, y = l.getD 4 0 := ⟨_, rfl⟩
  obtain ⟨y5, hy5⟩ : ∃ y, y = l.getD 5 0 := ⟨_, rfl⟩
  obtain ⟨m, hm⟩ : ∃ m, m = lenOf l := ⟨_, rfl⟩
  rw [← hm] at hbig
  unfold lenOf at hm
  rw [← hy0] at c0 hs
  rw [← hy1] at c1 hs
  rw [← hy2] at c2 hs
  rw [← hy3] at c3 hs
  rw [← hy4] at c4 hm
  rw [← hy5] at c5 hm
  have b4 := y4.toNat_lt
  have b5 := y5.toNat_lt
  have hm1 : (m : Int) ≤ 256 * (y4.toNat : Int) + (y5.toNat : Int) := by omega
  have hm2 : 256 * (y4.toNat : Int) + (y5.toNat : Int) ≤ (m : Int) := by omega
  have hbm : m ≤ 65535 := by omega
  clear hm hy0 hy1 hy2 hy3 hy4 hy5
  obtain ⟨S, hS⟩ : ∃ S, S = crc (l.drop 4) := ⟨_, rfl⟩
  rw [← hS] at hs
  have HS := hide hS
  clear hS
  have hs' : (y0.toNat : Int) = U S / 16777216 % 256 ∧ (y1.toNat : Int) = U S / 65536 % 256 ∧ (y2.toNat : Int) = U S / 256 % 256 ∧ (y3.toNat : Int) = U S % 256 := hs
  clear hs
  have b0 : ((y0.toNat : Int) != U S / 16777216 % 256) = false := by simpa using hs'.1
  have b1 : ((y1.toNat : Int) != U S / 65536 % 256) = false := by simpa using hs'.2.1
  have b2 : ((y2.toNat : Int) != U S / 256 % 256) = false := by simpa using hs'.2.2.1
  have b3 : ((y3.toNat : Int) != U S % 256) = false := by simpa using hs'.2.2.2
  clear hs'
  go_enter Try.func15, Try.ntmps15
  go_wp2_with (go_at_call 9; refine (refOf_any _ _ _ (l.drop 4) _ (by omega) ?_).mono ?_; exact R2.out; rw [← HS.out]; rintro e w' ⟨rfl, rfl⟩)
  go_quiet (fail)
  go_wp2_with fail
  go_ret2
  exact ⟨rfl, Below.drewN' (Below.refl _ _) _⟩

/-- What Open hands back. -/
def OpenPost (T : List UInt8) (k : Int) (w : World) (e : Ending) (w' : World) : Prop :=
  ∃ A' n' c', e = .returned (.tuple #[.slice A' n' c', .int .i64 k]) ∧ Rb w' A' n' T ∧ Below w.heap.size w w'

set_option maxHeartbeats 8000000 in
theorem ropen_tail (A : Option Addr) (n c : Nat) (l : List UInt8) (w : World) (h1 : 8 ≤ n) (h2 : n ≤ 65536) (hnc : n ≤ c) (h : Rb w A n l) (hgood : l.take 4 = fourL (crc (l.drop 4))) (hbig : lenOf l + 8 ≤ n)
    (q : Bool) (hq : (sealL (textOf l) n == l) = q) :
    Calls Try.prog 15 #[.slice A n c, .int .i64 n] w (OpenPost (if q then textOf l else []) (if q then 0 else 4) w) := by
  have hd : decide ((n : Int) < 8) = false := by simp; omega
  have hd2 : decide (65536 < (n : Int)) = false := by simp; omega
  have s2 := run_lo slice22 size5 A n c 4 4 rfl (by omega)
  have R2 := hide (h.lo_ 4 c (by omega) hnc)
  have hll := hide h.len
  have hs := (sum_iff l (crc (l.drop 4)) (by have := h.len; omega)).1 hgood
  have RT := hide (h.lohi_ 8 (8 + lenOf l) c)
  obtain ⟨b, o, rfl, hb, hc⟩ := h.at_ (by omega)
  have R0 := hide h
  have c0 : w.cell? ⟨b, o, none⟩ = some (.int .u8 ((l.getD 0 0).toNat : Int)) := hc 0 (by omega)
  have c1 := hc 1 (by omega)
  have c2 := hc 2 (by omega)
  have c3 := hc 3 (by omega)
  have c4 := hc 4 (by omega)
  have c5 := hc 5 (by omega)
  clear hc h
  obtain ⟨y0, hy0⟩ : ∃ y, y = l.getD 0 0 := ⟨_, rfl⟩
  obtain ⟨y1, hy1⟩ : ∃ y, y = l.getD 1 0 := ⟨_, rfl⟩
  obtain ⟨y2, hy2⟩ : ∃ y, y = l.getD 2 0 := ⟨_, rfl⟩
  obtain ⟨y3, hy3⟩ : ∃ y, y = l.getD 3 0 := ⟨_, rfl⟩
  obtain ⟨y4, hy4⟩ : ∃ y, y = l.getD 4 0 := ⟨_, rfl⟩
  obtain ⟨y5, hy5⟩ : ∃ y, y = l.getD 5 0 := ⟨_, rfl⟩
  obtain ⟨m, hm⟩ : ∃ m, m = lenOf l := ⟨_, rfl⟩
  have HM := hide hm
  rw [← hm] at hbig RT
  unfold lenOf at hm
  rw [← hy0] at c0 hs
  rw [← hy1] at c1 hs
  rw [← hy2] at c2 hs
  rw [← hy3] at c3 hs
  rw [← hy4] at c4 hm
  rw [← hy5] at c5 hm
  have b4 := y4.toNat_lt
  have b5 := y5.toNat_lt
  have hm1 : (m : Int) ≤ 256 * (y4.toNat : Int) + (y5.toNat : Int) := by omega
  have hm2 : 256 * (y4.toNat : Int) + (y5.toNat : Int) ≤ (m : Int) := by omega
  have hbm : m ≤ 65535 := by omega
  clear hm hy0 hy1 hy2 hy3 hy4 hy5
  obtain ⟨S, hS⟩ : ∃ S, S = crc (l.drop 4) := ⟨_, rfl⟩
  rw [← hS] at hs
  have HS := hide hS
  clear hS
  have hs' : (y0.toNat : Int) = U S / 16777216 % 256 ∧ (y1.toNat : Int) = U S / 65536 % 256 ∧ (y2.toNat : Int) = U S / 256 % 256 ∧ (y3.toNat : Int) = U S % 256 := hs
  clear hs
  have b0 : ((y0.toNat : Int) != U S / 16777216 % 256) = false := by simpa using hs'.1
  have b1 : ((y1.toNat : Int) != U S / 65536 % 256) = false := by simpa using hs'.2.1
  have b2 : ((y2.toNat : Int) != U S / 256 % 256) = false := by simpa using hs'.2.2.1
  have b3 : ((y3.toNat : Int) != U S % 256) = false := by simpa using hs'.2.2.2
  clear hs'
  have s4 := run_lohi slice22 size5 (some ⟨b, o, none⟩) n c 8 (8 + m) 8 (8 + (256 * (y4.toNat : Int) + (y5.toNat : Int))) rfl (by omega) (by omega) (by omega)
  have RT2 := hide (show Rb w (cutA (some ⟨b, o, none⟩) c 8) m (textOf l) by
    have hr := RT.out (by omega) (by omega) hnc
    rw [Nat.add_sub_cancel_left, show (l.drop 8).take m = textOf l by unfold textOf; rw [HM.out]] at hr
    exact hr)
  clear RT
  obtain ⟨T, hT⟩ : ∃ T, T = textOf l := ⟨_, rfl⟩
  rw [← hT] at hq RT2 ⊢
  have HT := hide hT
  clear hT
  cases q
  all_goals
    go_enter Try.func15, Try.ntmps15
    go_wp2_with (go_at_call 9; refine (refOf_any _ _ _ (l.drop 4) _ (by omega) ?_).mono ?_; exact R2.out; rw [← HS.out]; rintro e w' ⟨rfl, rfl⟩)
    go_quiet (fail)
    go_wp2_with (first
      | ((with_reducible show wpList _ _ _ (⟨some 78, _, _, _, _, _⟩ :: _) _ _)
         refine wpList_app rfl (.tmp 73) (.tmp 77) 22 rfl w.heap.size 5 (.int .u8 0) 1 1 Try.underlying22 info5 rfl (by omega) _ _ 0 [] rfl ((Vk.new _ 5 []).own (Nat.le_refl _) rfl (by unfold maxLen; omega)) _ _ _ (by8 T) rfl ((RT2.out.drewN _).alloc _) (by8_one T) (by unfold maxLen; omega) (by omega) (by simp) ?_
         intro A1 c1 w1 hown hgr _
         simp only [Nat.zero_add, List.nil_append] at hown
         have R1 := hide (Rb.of_own hown)
         have hb1 : Below w.heap.size w w1 := (Below.al (Below.drewN' (Below.refl _ _) nq) _).grown hgr (by simp) (by intro k hk; simp [Value.ownBlock] at hk; omega)
         clear hown hgr)
      | (go_at_call 13
         refine (rseal_ok _ _ _ T n _ h1 h2 hbig ?_).mono ?_
         · exact R1.out
         rintro e w2 ⟨A2, n2, c2, rfl, hr2, hb2⟩
         have RS := hide hr2
         have hb3 := Below.then_ hb1 hb2
         clear hr2)
      | ((with_reducible show wpList _ _ _ (⟨some 86, _, _, _, _, _⟩ :: _) _ _)
         refine wpList_cv rfl (.tmp 85) 22 5 9 rfl Try.underlying22 Try.underlying5 Try.underlying9 _ _ _ rfl (sealL T n) RS.out ?_)
      | ((with_reducible show wpList _ _ _ (⟨some 88, _, _, _, _, _⟩ :: _) _ _)
         refine wpList_cv rfl (.tmp 87) 22 5 9 rfl Try.underlying22 Try.underlying5 Try.underlying9 _ _ _ rfl l (R0.out.below hb3) ?_))
    go_ret2
  · exact ⟨none, 0, 0, rfl, Rb.none_ _ _, hb3⟩
  · exact ⟨A1, _, c1, rfl, R1.out.below hb2, hb3⟩

/-- The reference's Open, whatever the bytes and the size. -/
theorem ropen_any (A : Option Addr) (n c : Nat) (size : Int) (l : List UInt8) (w : World) (hnc : n ≤ c) (h : Rb w A n l) :
    Calls Try.prog 15 #[.slice A n c, .int .i64 size] w fun e w' => ∃ A' n' c', e = .returned (.tuple #[.slice A' n' c', .int .i64 (openS l size).2]) ∧ Rb w' A' n' (openS l size).1 ∧ Below w.heap.size w w' := by
  have hl := h.len
  by_cases h1 : size < 8 ∨ 65536 < size
  · have e : openS l size = ([], 2) := by unfold openS; rw [if_pos h1]
    rw [e]
    exact (ropen_arg A n c size w h1).mono fun e w' ⟨he, hw⟩ => ⟨none, 0, 0, he, Rb.none_ _ _, hw ▸ Below.refl _ _⟩
  · by_cases h2 : (n : Int) ≠ size
    · have e : openS l size = ([], 3) := by unfold openS; rw [if_neg h1, if_pos (by rw [hl]; exact h2)]
      rw [e]
      exact (ropen_cut A n c size w (by omega) (by omega) h2).mono fun e w' ⟨he, hw⟩ => ⟨none, 0, 0, he, Rb.none_ _ _, hw ▸ Below.refl _ _⟩
    · obtain rfl : size = (n : Int) := by omega
      have hs : openS l n = if l.take 4 ≠ fourL (crc (l.drop 4)) then ([], 10) else if (n : Int) - 8 < (lenOf l : Int) then ([], 4) else if bodyL (textOf l) l.length ≠ l.drop 4 then ([], 4) else (textOf l, 0) := by
        unfold openS; rw [if_neg h1, if_neg (by rw [hl]; exact h2)]
      rw [hs]
      by_cases h3 : l.take 4 = fourL (crc (l.drop 4))
      · rw [if_neg (by simpa using h3)]
        by_cases h4 : (n : Int) - 8 < (lenOf l : Int)
        · rw [if_pos h4]
          exact (ropen_len A n c l w (by omega) (by omega) hnc h h3 (by omega)).mono fun e w' ⟨he, hw⟩ => ⟨none, 0, 0, he, Rb.none_ _ _, hw⟩
        · rw [if_neg h4, hl]
          have hb := seal_iff l n h3
          by_cases h5 : bodyL (textOf l) n = l.drop 4
          · rw [if_neg (by simpa using h5)]
            exact (ropen_tail A n c l w (by omega) (by omega) hnc h h3 (by omega) true (by rw [hb.2 h5]; simp))
          · rw [if_pos h5]
            exact (ropen_tail A n c l w (by omega) (by omega) hnc h h3 (by omega) false (by rw [beq_eq_false_iff_ne]; exact fun h6 => h5 (hb.1 h6)))
      · rw [if_pos h3]
        exact (ropen_sum A n c l w (by omega) (by omega) hnc h h3).mono fun e w' ⟨he, hw⟩ => ⟨none, 0, 0, he, Rb.none_ _ _, hw⟩

set_option maxHeartbeats 8000000 in
theorem seals_big (A : Option Addr) (n c : Nat) (B : Option Addr) (nb cb : Nat) (size : Int) (w : World) (h : 1500 < n ∨ 1500 < nb ∨ (3000 < size ∧ size ≤ 65536)) :
    Calls Try.prog 4 #[.slice A n c, .slice B nb cb, .int .i64 size] w fun e w' => e = .returned (.bool true) ∧ Below w.heap.size w w' := by
  by_cases h1 : 1500 < n
  · have d1 : decide (1500 < (n : Int)) = true := by simp; omega
    clear h h1
    go_enter Try.func4, Try.ntmps4
    go_wp2_with (go_at_call 8; refine (awake_any _).mono ?_; rintro e w1 ⟨rfl, hb⟩)
    go_ret
    exact ⟨rfl, hb⟩
  · have d1 : decide (1500 < (n : Int)) = false := by simp; omega
    by_cases h2 : 1500 < nb
    · have d2 : decide (1500 < (nb : Int)) = true := by simp; omega
      clear h h1 h2
      go_enter Try.func4, Try.ntmps4
      go_wp2_with (go_at_call 8; refine (awake_any _).mono ?_; rintro e w1 ⟨rfl, hb⟩)
      go_ret
      exact ⟨rfl, hb⟩
    · have d2 : decide (1500 < (nb : Int)) = false := by simp; omega
      have h3 : 3000 < size ∧ size ≤ 65536 := by rcases h with h | h | h <;> first | omega | exact h
      have d3 : decide (3000 < size) = true := by simp; omega
      have d4 : decide (size ≤ 65536) = true := by simp; omega
      clear h h1 h2 h3
      go_enter Try.func4, Try.ntmps4
      go_wp2_with (go_at_call 8; refine (awake_any _).mono ?_; rintro e w1 ⟨rfl, hb⟩)
      go_ret
      exact ⟨rfl, hb⟩

set_option maxHeartbeats 8000000 in
theorem seals_any (A : Option Addr) (n c : Nat) (l : List UInt8) (B : Option Addr) (nb cb : Nat) (lb : List UInt8) (size : Int) (w : World) (_hac : n ≤ c) (hbc : nb ≤ cb) (_hc : c ≤ 9223372036854775807) (_hcb : cb ≤ 9223372036854775807)
    (ha : Rb w A n l) (hb : Rb w B nb lb) :
    Calls Try.prog 4 #[.slice A n c, .slice B nb cb, .int .i64 size] w fun e w' => e = .returned (.bool true) ∧ Below w.heap.size w w' := by
  by_cases h : 1500 < n ∨ 1500 < nb ∨ (3000 < size ∧ size ≤ 65536)
  · exact seals_big A n c B nb cb size w h
  · have hn : n ≤ 1500 := by omega
    have d1 : decide (1500 < (n : Int)) = false := by simp; omega
    have d2 : decide (1500 < (nb : Int)) = false := by simp; omega
    have HA := hide ha
    have HB := hide hb
    obtain ⟨S1, hS1⟩ : ∃ X, X = (sealS l size).1 := ⟨_, rfl⟩
    obtain ⟨k1, hk1⟩ : ∃ X, X = (sealS l size).2 := ⟨_, rfl⟩
    obtain ⟨S2, hS2⟩ : ∃ X, X = (openS lb size).1 := ⟨_, rfl⟩
    obtain ⟨k2, hk2⟩ : ∃ X, X = (openS lb size).2 := ⟨_, rfl⟩
    have r1 := hide (fun w' (h : Rb w' A n l) => seal_any A n c size l w' (by omega) h)
    have r2 := hide (fun w' (h : Rb w' A n l) => rseal_any A n c size l w' h)
    have r3 := hide (fun w' (h : Rb w' B nb lb) => open_any B nb cb size lb w' hbc h)
    have r4 := hide (fun w' (h : Rb w' B nb lb) => ropen_any B nb cb size lb w' hbc h)
    rw [← hS1, ← hk1] at r1 r2
    rw [← hS2, ← hk2] at r3 r4
    have d34 : (decide (3000 < size) = true ∧ decide (size ≤ 65536) = false) ∨ decide (3000 < size) = false := by
      by_cases h3 : 3000 < size
      · left; constructor <;> simp <;> omega
      · right; simp; omega
    clear hS1 hk1 hS2 hk2 ha hb h hn
    rcases d34 with ⟨d3, d4⟩ | d3
    all_goals
      go_enter Try.func4, Try.ntmps4
      go_wp2_with (first
        | (go_at_call 12; refine (r1.out _ ?_).mono ?_; exact HA.out; rintro e w1 ⟨A1, n1, c1, rfl, hr1, hb1⟩; have R1 := hide hr1; clear hr1)
        | (go_at_call 13; refine (r2.out _ ?_).mono ?_; exact HA.out.below hb1; rintro e w2 ⟨A2, n2, c2, rfl, hr2, hb2⟩; have R2 := hide hr2; clear hr2; have hb2' := Below.then_ hb1 hb2)
        | (go_at_call 14; refine (r3.out _ ?_).mono ?_; exact HB.out.below hb2'; rintro e w3 ⟨A3, n3, c3, rfl, hr3, hb3⟩; have R3 := hide hr3; clear hr3; have hb3' := Below.then_ hb2' hb3)
        | (go_at_call 15; refine (r4.out _ ?_).mono ?_; exact HB.out.below hb3'; rintro e w4 ⟨A4, n4, c4, rfl, hr4, hb4⟩; have R4 := hide hr4; clear hr4; have hb4' := Below.then_ hb3' hb4)
        | ((with_reducible show wpList _ _ _ (⟨some 57, _, _, _, _, _⟩ :: _) _ _)
           refine wpList_cv rfl (.tmp 56) 22 5 9 rfl Try.underlying22 Try.underlying5 Try.underlying9 _ _ _ rfl S1 (((R1.out.below hb2).below hb3).below hb4) ?_)
        | ((with_reducible show wpList _ _ _ (⟨some 59, _, _, _, _, _⟩ :: _) _ _)
           refine wpList_cv rfl (.tmp 58) 22 5 9 rfl Try.underlying22 Try.underlying5 Try.underlying9 _ _ _ rfl S1 ((R2.out.below hb3).below hb4) ?_)
        | ((with_reducible show wpList _ _ _ (⟨some 68, _, _, _, _, _⟩ :: _) _ _)
           refine wpList_cv rfl (.tmp 67) 22 5 9 rfl Try.underlying22 Try.underlying5 Try.underlying9 _ _ _ rfl S2 (R3.out.below hb4) ?_)
        | ((with_reducible show wpList _ _ _ (⟨some 70, _, _, _, _, _⟩ :: _) _ _)
           refine wpList_cv rfl (.tmp 69) 22 5 9 rfl Try.underlying22 Try.underlying5 Try.underlying9 _ _ _ rfl S2 R4.out ?_)
        | (go_at_call 8; refine (awake_any _).mono ?_; rintro e w5 ⟨rfl, hb5⟩))
      go_ret
      exact ⟨rfl, Below.then_ hb4' hb5⟩

end Go.Proofs.Ytkgpijojamidiaa
