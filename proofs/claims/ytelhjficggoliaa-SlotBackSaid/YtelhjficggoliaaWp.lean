/- The walk of the law SlotBack. -/
import Derived.Test.YtelhjficggoliaaWo
namespace Go.Proofs.Ytelhjficggoliaa
open Go.RowKit

theorem back_out (a : Int) (A0 : Option Addr) (n0 c0 : Nat) (F0 F1 F2 F3 F4 F5 F6 F7 : UInt8) (w : World) (hd : 954 < n0) :
    Calls Try.prog 6 #[.int .u32 a, .slice A0 n0 c0, .agg #[.int .u8 (F0.toNat : Int), .int .u8 (F1.toNat : Int), .int .u8 (F2.toNat : Int), .int .u8 (F3.toNat : Int), .int .u8 (F4.toNat : Int), .int .u8 (F5.toNat : Int), .int .u8 (F6.toNat : Int), .int .u8 (F7.toNat : Int)]] w
      fun e w' => e = .returned (.bool true) ∧ Below w.heap.size w w' := by
  have e0 : decide (954 < (n0 : Int)) = true := by simp; omega
  clear hd
  go_enter Try.func6, Try.ntmps6
  go_wp2_with (go_at_call 7; refine (awake_any _).mono ?_; rintro e w7 ⟨rfl, hb7⟩)
  go_ret
  exact ⟨rfl, Below.then_ (Below.al (Below.refl _ _) _) hb7⟩
/-- How many of the first k sectors are lost. -/
def lostK (F : List UInt8) : Nat → Nat
  | 0 => 0
  | k + 1 => if fateK F k % 3 = 1 then lostK F k else lostK F k + 1
theorem lostK_le (F : List UInt8) : ∀ k, lostK F k ≤ k
  | 0 => Nat.le_refl _
  | k + 1 => by have := lostK_le F k; unfold lostK; split <;> omega
theorem lostK_zero (F : List UInt8) : ∀ k, lostK F k = 0 → ∀ i, i < k → fateK F i % 3 = 1
  | 0, _, i, hi => absurd hi (by omega)
  | k + 1, h, i, hi => by
    unfold lostK at h
    by_cases h1 : fateK F k % 3 = 1
    · rw [if_pos h1] at h
      rcases Nat.lt_or_ge i k with h2 | h2
      · exact lostK_zero F k h i h2
      · obtain rfl : i = k := by omega
        exact h1
    · rw [if_neg h1] at h; omega

set_option maxRecDepth 4000 in
set_option maxHeartbeats 16000000 in
theorem back_in (a : Nat) (ha : a ≤ 4294967295) (A0 : Option Addr) (n0 c0 : Nat) (l0 : List UInt8) (F : List UInt8) (F0 F1 F2 F3 F4 F5 F6 F7 : UInt8)
    (hF : F = [F0, F1, F2, F3, F4, F5, F6, F7]) (w : World) (h0 : Rb w A0 n0 l0) (hn0 : n0 ≤ 954) :
    Calls Try.prog 6 #[.int .u32 (a : Int), .slice A0 n0 c0, .agg #[.int .u8 (F0.toNat : Int), .int .u8 (F1.toNat : Int), .int .u8 (F2.toNat : Int), .int .u8 (F3.toNat : Int), .int .u8 (F4.toNat : Int), .int .u8 (F5.toNat : Int), .int .u8 (F6.toNat : Int), .int .u8 (F7.toNat : Int)]] w
      fun e w' => e = .returned (.bool true) ∧ Below w.heap.size w w' := by
  have HF := hide hF
  have HFl := hide (show F.length = 8 by rw [hF]; rfl)
  have L0 := hide (show l0.length ≤ 954 by rw [h0.len]; exact hn0)
  have H0 := hide h0
  have PA := hide (put_gen a ha A0 n0 c0 l0 L0.out)
  have HGot := hide (got (n := 1 + a) (l := l0) (by omega) (by omega) L0.out)
  have e0 : decide (954 < (n0 : Int)) = false := by simp; omega
  have HA := hide ha
  have e1 : (((1 + a : Nat) : Int) != 1 + (a : Int)) = false := by rw [bne_eq_false_iff_eq]; omega
  obtain ⟨G, hG⟩ : ∃ G, G = 1 + a := ⟨_, rfl⟩
  rw [← hG] at e1 HGot PA
  have HG := hide hG
  obtain ⟨i0, hi0, hz0, hz1, hz2⟩ := info_parts info5
  clear hF h0 hn0 hG
  go_enter Try.func6, Try.ntmps6
  go_wp2_with fail
  obtain ⟨w3, hw3⟩ : ∃ w3, w3 = w.alloc (.cells #[.int .u8 (F0.toNat : Int), .int .u8 (F1.toNat : Int), .int .u8 (F2.toNat : Int), .int .u8 (F3.toNat : Int), .int .u8 (F4.toNat : Int), .int .u8 (F5.toNat : Int), .int .u8 (F6.toNat : Int), .int .u8 (F7.toNat : Int)] 45) := ⟨_, rfl⟩
  have hb3 := hide (show Below w.heap.size w w3 by rw [hw3]; exact Below.al (Below.refl _ _) _)
  have VF := hide (show Vk w3 w.heap.size 45 (by8 F) by rw [hw3, HF.out]; exact Vk.new w 45 _)
  rw [← hw3]
  clear hw3
  go_wp2_with (first
    | (go_at_call 8
       refine (PA.out _ ?_).mono ?_
       · exact H0.out.below hb3.out
       intro e w4 hp
       unfold LaidPost at hp
       obtain ⟨bx, ox, cx, rfl, hltx, _, hrx, hb4⟩ := hp
       have hb34 := hide hb4
       have RX := hide hrx
       clear hrx hb4)
    | (go_at_call 12
       refine (get_any _ 4 cx _ _ RX.out).mono ?_
       rintro e w5 ⟨AG, nG, cG, rfl, hrG, _, hb5⟩
       rw [HGot.out.1, HGot.out.2.1]
       rw [HGot.out.2.2] at hrG
       have RG := hide hrG
       have RX5 := hide (RX.out.below hb5)
       have hb35 := hide (Below.then_ hb34.out hb5)
       have hbx5 := hide (Nat.lt_of_lt_of_le hltx hb5.size)
       have H05 := hide (H0.out.below (Below.then_ hb3.out hb35.out))
       clear hrG hb5)
    | ((with_reducible show wpList _ _ _ (⟨some 54, _, _, _, _, _⟩ :: _) _ _)
       refine wpList_cv rfl (.tmp 53) 22 5 9 rfl Try.underlying22 Try.underlying5 Try.underlying9 _ _ _ rfl l0 RG.out ?_)
    | ((with_reducible show wpList _ _ _ (⟨some 56, _, _, _, _, _⟩ :: _) _ _)
       refine wpList_cv rfl (.tmp 55) 22 5 9 rfl Try.underlying22 Try.underlying5 Try.underlying9 _ _ _ rfl l0 H05.out ?_)
    | (at_make
       refine wpList_make_full _ rfl (.const (.int .i64 256)) (.const (.int .i64 256)) 22 rfl w5.heap.size 5 i0 (.int .u8 0) 1 Try.underlying22 hi0 hz0 hz1 .i64 .i64 _ _ 256 rfl rfl rfl rfl (by rw [hz2]; omega) (by unfold maxLen; omega) (Nat.le_refl _) ?_
       intro w6 hown hgr
       rw [made_by8] at hown
       have V6 := hide (Vk.of_own hown)
       have hb6 := hide ((Below.refl _ _).grown hgr (Nat.le_refl _) (by simp) : Below w5.heap.size w5 w6)
       clear hown hgr))
  have VF6 := hide ((VF.out.below hb35.out VF.out.lt).below hb6.out (Nat.lt_of_lt_of_le VF.out.lt hb35.out.size))
  have RX6 := hide (RX5.out.below hb6.out)
  clear e1
  go_loop [13, 14] (fun m i => ∃ k : Nat, k ≤ 4 ∧ i = .int .i64 k ∧ m = .int .i64 (lostK F k : Nat)) (fun _ i => 4 - (intOf i).toNat)
  case atStart => exact ⟨0, Nat.zero_le _, rfl, rfl⟩
  case round =>
    obtain ⟨k, hk, rfl, rfl⟩ := hrel
    by_cases hlt : k < 4
    · obtain ⟨Ak, nk, ck, hck, hrk, _⟩ := RX6.out.cell_ hlt
      obtain rfl : nk = 256 := by rw [← hrk.len, nth_len L0.out k hlt]
      obtain ⟨x, hx⟩ : ∃ x, F.getD (k * 2) 0 = x := ⟨_, rfl⟩
      have ca : w6.cell? ⟨w.heap.size, k * 2, none⟩ = some (.int .u8 (x.toNat : Int)) := by rw [VF6.out.cell, by8_get _ _ (by rw [HFl.out]; omega), hx]
      have hx1 := x.toNat_lt
      have EL : lostK F (k + 1) = if x.toNat % 3 = 1 then lostK F k else lostK F k + 1 := by rw [lostK, fateK, hx]
      have hll := lostK_le F k
      obtain ⟨m, hm⟩ : ∃ m, lostK F k = m := ⟨_, rfl⟩
      rw [hm] at EL hll ⊢
      clear hrk hx hm
      by_cases h1 : x.toNat % 3 = 1
      · have d1 : ((x.toNat : Int) % 3 != 1) = false := by rw [bne_eq_false_iff_eq]; omega
        rw [if_pos h1] at EL
        have HE := hide EL
        clear EL h1
        go_wp2_with fail
        go_round
        case rel => exact ⟨k + 1, by omega, by go_num, by rw [HE.out]⟩
        case measure => simp [intOf]; omega
      · have d1 : ((x.toNat : Int) % 3 != 1) = true := by rw [bne_iff_ne]; omega
        rw [if_neg h1] at EL
        have HE := hide EL
        clear EL h1
        go_wp2_with fail
        go_round
        case rel => exact ⟨k + 1, by omega, by go_num, by rw [HE.out]; go_num⟩
        case measure => simp [intOf]; omega
    · obtain rfl : k = 4 := by omega
      obtain ⟨L, hL⟩ : ∃ L, L = mixK zero4 (secs G l0 4) (fateK F) (fateC F) 4 := ⟨_, rfl⟩
      have hZ := got_zero (show 1 ≤ G by rw [HG.out]; omega) (show G ≤ 1099511627776 by rw [HG.out]; omega) L0.out (fateK F) (fateC F) (fateC_le F) L hL
      have hK := fun h => got_kept (show 1 ≤ G by rw [HG.out]; omega) (show G ≤ 1099511627776 by rw [HG.out]; omega) L0.out zero4 (fateK F) (fateC F) (lostK_zero F 4 h) L hL
      have MX := hide (fun g w hz hr => mixed_any g 0 4 bx ox cx zero4 (secs G l0 4) F w HFl.out hz hr (fun i hi => by rw [nth_zero4 i hi, zs8_length]) (nth_len L0.out))
      rw [← hL] at MX
      have G2 := hide (fun O c w h => get_any O 4 c L w h)
      unfold GetPost at G2
      obtain ⟨E, hE⟩ : ∃ E, getE L = E := ⟨_, rfl⟩
      obtain ⟨m, hm⟩ : ∃ m, lostK F 4 = m := ⟨_, rfl⟩
      rw [hE] at hZ hK G2
      rw [hm] at hK ⊢
      clear hL hE hm
      have hcase : (m = 0 ∧ E = 0) ∨ (((m : Int) == 0) = false ∧ decide (0 < m) = true ∧ (E = 3 ∨ E = 0)) := by
        by_cases h : m = 0
        · exact .inl ⟨h, hK h⟩
        · refine .inr ⟨by rw [beq_eq_false_iff_ne]; omega, by simp; omega, hZ⟩
      clear hZ hK hlt hk
      rcases hcase with ⟨rfl, rfl⟩ | ⟨m1, m2, rfl | rfl⟩
      all_goals
        go_wp2_with (first
          | ((with_reducible show wpList _ _ _ (⟨some 85, _, _, _, _, _⟩ :: _) _ _)
             refine wpList_load_row rfl 45 (.tmp 5) rfl w.heap.size rfl 45 (by8 F).toArray (0, 0) _ (VF6.out.alloc _) Try.underlying45 rfl (by rw [show (by8 F).toArray.size = 8 by simp [by8_length, HFl.out]]; kernel_rfl) ?_)
          | (go_at_call 18
             refine (MX.out _ _ ?_ ?_).mono ?_
             · refine ⟨rfl, [.slice (some ⟨w5.heap.size, 0, none⟩) 256 256, .slice (some ⟨w5.heap.size, 0, none⟩) 256 256, .slice (some ⟨w5.heap.size, 0, none⟩) 256 256, .slice (some ⟨w5.heap.size, 0, none⟩) 256 256], (Vk.new w6 22 _).rd 1 4 rfl, fun i l hi => ?_⟩
               have hrz : Rb w6 (some ⟨w5.heap.size, 0, none⟩) 256 (zs8 256) := V6.out.rd 1 256 (by rw [by8_length, zs8_length])
               have h4 : i < 4 := (List.getElem?_eq_some_iff.1 hi).1
               have : i = 0 ∨ i = 1 ∨ i = 2 ∨ i = 3 := by omega
               rcases this with rfl | rfl | rfl | rfl <;> (injection hi with hi; subst hi; exact ⟨_, _, _, rfl, hrz.alloc _, Nat.le_refl _, by unfold maxLen; omega⟩)
             · exact RX6.out.below (Below.al (Below.refl _ _) _)
             rintro e w7 ⟨O, cO, rfl, hrO, hb7⟩
             have RO := hide hrO
             have hb37 := hide (Below.then_ (Below.then_ hb35.out hb6.out) (Below.then_ (Below.al (Below.refl _ _) _) hb7))
             clear hrO hb7)
          | (go_at_call 12
             refine (G2.out _ _ _ RO.out).mono ?_
             rintro e w8 ⟨AH, nH, cH, rfl, _, _, hb8⟩
             have hb38 := hide (Below.then_ hb37.out hb8)
             clear hb8)
          | (go_at_call 7; refine (awake_any _).mono ?_; rintro e w9 ⟨rfl, hb9⟩))
        go_ret
        exact ⟨rfl, Below.then_ hb3.out (Below.then_ hb38.out hb9)⟩

theorem back_any (a : Int) (ha : 0 ≤ a ∧ a ≤ 4294967295) (A0 : Option Addr) (n0 c0 : Nat) (l0 : List UInt8) (F : List UInt8) (hF : F.length = 8) (w : World) (h0 : Rb w A0 n0 l0) :
    Calls Try.prog 6 #[.int .u32 a, .slice A0 n0 c0, .agg (by8 F).toArray] w fun e w' => e = .returned (.bool true) ∧ Below w.heap.size w w' := by
  obtain ⟨F0, F1, F2, F3, F4, F5, F6, F7, hF8⟩ := eight_of F hF
  by_cases hd : 954 < n0
  · subst hF8
    exact back_out a A0 n0 c0 F0 F1 F2 F3 F4 F5 F6 F7 w hd
  · obtain ⟨a', rfl⟩ : ∃ a' : Nat, a = a' := ⟨a.toNat, by omega⟩
    have := back_in a' (by omega) A0 n0 c0 l0 F F0 F1 F2 F3 F4 F5 F6 F7 hF8 w h0 (by omega)
    rw [hF8]
    exact this
end Go.Proofs.Ytelhjficggoliaa
