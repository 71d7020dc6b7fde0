/- The walk of the law SlotTorn. -/
import Derived.Test.YtelhjficggoliaaWn
namespace Go.Proofs.Ytelhjficggoliaa
open Go.RowKit

theorem nth_len {n : Nat} {l : List UInt8} (h : l.length ≤ 954) : ∀ i, i < 4 → (nth (secs n l 4) i).length = 256 := fun i hi => by rw [nth_secs n l 4 i hi, sec_length n l i h hi]
/-- Put, at a number that came in. -/
theorem put_gen (a : Nat) (h : a ≤ 4294967295) (A : Option Addr) (n c : Nat) (l : List UInt8) (hl : l.length ≤ 954) (w : World) (hr : Rb w A n l) : Calls Try.prog 8 #[.int .i64 (1 + (a : Int)), .slice A n c] w (LaidPost (1 + a) l w) := by
  have := put_any (1 + (a : Int)) A n c l w hr
  rw [show (1 + (a : Int)) = ((1 + a : Nat) : Int) by omega] at this ⊢
  exact this.mono fun e w' h => laid_of (by omega) (by omega) hl h
/-- The ways out ahead of any work. -/
theorem torn_out (a b : Int) (A0 : Option Addr) (n0 c0 : Nat) (A1 : Option Addr) (n1 c1 : Nat) (F0 F1 F2 F3 F4 F5 F6 F7 : UInt8) (w : World) (hd : 954 < n0 ∨ 954 < n1 ∨ a = b) :
    Calls Try.prog 5 #[.agg #[.int .u32 a, .int .u32 b], .agg #[.slice A0 n0 c0, .slice A1 n1 c1], .agg #[.int .u8 (F0.toNat : Int), .int .u8 (F1.toNat : Int), .int .u8 (F2.toNat : Int), .int .u8 (F3.toNat : Int), .int .u8 (F4.toNat : Int), .int .u8 (F5.toNat : Int), .int .u8 (F6.toNat : Int), .int .u8 (F7.toNat : Int)]] w
      fun e w' => e = .returned (.bool true) ∧ Below w.heap.size w w' := by
  by_cases d0 : 954 < n0
  · have e0 : decide (954 < (n0 : Int)) = true := by simp; omega
    clear hd d0
    go_enter Try.func5, Try.ntmps5
    go_wp2_with (go_at_call 7; refine (awake_any _).mono ?_; rintro e w7 ⟨rfl, hb7⟩)
    go_ret
    exact ⟨rfl, Below.then_ (Below.al (Below.al (Below.al (Below.refl _ _) _) _) _) hb7⟩
  · have e0 : decide (954 < (n0 : Int)) = false := by simp; omega
    by_cases d1 : 954 < n1
    · have e1 : decide (954 < (n1 : Int)) = true := by simp; omega
      clear hd d0 d1
      go_enter Try.func5, Try.ntmps5
      go_wp2_with (go_at_call 7; refine (awake_any _).mono ?_; rintro e w7 ⟨rfl, hb7⟩)
      go_ret
      exact ⟨rfl, Below.then_ (Below.al (Below.al (Below.al (Below.refl _ _) _) _) _) hb7⟩
    · have e1 : decide (954 < (n1 : Int)) = false := by simp; omega
      obtain rfl : a = b := by rcases hd with h | h | h <;> first | omega | exact h
      clear hd d0 d1
      go_enter Try.func5, Try.ntmps5
      go_wp2_with (go_at_call 7; refine (awake_any _).mono ?_; rintro e w7 ⟨rfl, hb7⟩)
      go_ret
      exact ⟨rfl, Below.then_ (Below.al (Below.al (Below.al (Below.refl _ _) _) _) _) hb7⟩

set_option maxRecDepth 4000 in
set_option maxHeartbeats 16000000 in
theorem torn_in (a b : Nat) (ha : a ≤ 4294967295) (hb : b ≤ 4294967295) (hab : a ≠ b) (A0 : Option Addr) (n0 c0 : Nat) (l0 : List UInt8) (A1 : Option Addr) (n1 c1 : Nat) (l1 : List UInt8) (F : List UInt8) (F0 F1 F2 F3 F4 F5 F6 F7 : UInt8)
    (hF : F = [F0, F1, F2, F3, F4, F5, F6, F7]) (w : World) (h0 : Rb w A0 n0 l0) (h1 : Rb w A1 n1 l1) (hn0 : n0 ≤ 954) (hn1 : n1 ≤ 954) :
    Calls Try.prog 5 #[.agg #[.int .u32 (a : Int), .int .u32 (b : Int)], .agg #[.slice A0 n0 c0, .slice A1 n1 c1], .agg #[.int .u8 (F0.toNat : Int), .int .u8 (F1.toNat : Int), .int .u8 (F2.toNat : Int), .int .u8 (F3.toNat : Int), .int .u8 (F4.toNat : Int), .int .u8 (F5.toNat : Int), .int .u8 (F6.toNat : Int), .int .u8 (F7.toNat : Int)]] w
      fun e w' => e = .returned (.bool true) ∧ Below w.heap.size w w' := by
  have HF := hide hF
  have HFl := hide (show F.length = 8 by rw [hF]; rfl)
  have L0 := hide (show l0.length ≤ 954 by rw [h0.len]; exact hn0)
  have L1 := hide (show l1.length ≤ 954 by rw [h1.len]; exact hn1)
  have H0 := hide h0
  have H1 := hide h1
  have PA := hide (put_gen a ha A0 n0 c0 l0 L0.out)
  have PB := hide (put_gen b hb A1 n1 c1 l1 L1.out)
  have e0 : decide (954 < (n0 : Int)) = false := by simp; omega
  have e1 : decide (954 < (n1 : Int)) = false := by simp; omega
  have e2 : ((a : Int) == (b : Int)) = false := by rw [beq_eq_false_iff_ne]; omega
  have HAB := hide hab
  clear hF h0 h1 hn0 hn1 hab
  go_enter Try.func5, Try.ntmps5
  go_wp2_with fail
  obtain ⟨w3, hw3⟩ : ∃ w3, w3 = ((w.alloc (.cells #[.int .u32 (a : Int), .int .u32 (b : Int)] 41)).alloc (.cells #[.slice A0 n0 c0, .slice A1 n1 c1] 42)).alloc (.cells #[.int .u8 (F0.toNat : Int), .int .u8 (F1.toNat : Int), .int .u8 (F2.toNat : Int), .int .u8 (F3.toNat : Int), .int .u8 (F4.toNat : Int), .int .u8 (F5.toNat : Int), .int .u8 (F6.toNat : Int), .int .u8 (F7.toNat : Int)] 45) := ⟨_, rfl⟩
  have hb3 := hide (show Below w.heap.size w w3 by rw [hw3]; exact Below.al (Below.al (Below.al (Below.refl _ _) _) _) _)
  have VG := hide (show Vk w3 w.heap.size 41 [.int .u32 (a : Int), .int .u32 (b : Int)] by rw [hw3]; exact ((Vk.new w 41 [.int .u32 (a : Int), .int .u32 (b : Int)]).alloc _).alloc _)
  have VB := hide (show Vk w3 (w.heap.size + 1) 42 [.slice A0 n0 c0, .slice A1 n1 c1] by
    have := (Vk.new (w.alloc (.cells #[.int .u32 (a : Int), .int .u32 (b : Int)] 41)) 42 [.slice A0 n0 c0, .slice A1 n1 c1]).alloc (.cells #[.int .u8 (F0.toNat : Int), .int .u8 (F1.toNat : Int), .int .u8 (F2.toNat : Int), .int .u8 (F3.toNat : Int), .int .u8 (F4.toNat : Int), .int .u8 (F5.toNat : Int), .int .u8 (F6.toNat : Int), .int .u8 (F7.toNat : Int)] 45)
    rw [show (w.alloc (.cells #[.int .u32 (a : Int), .int .u32 (b : Int)] 41)).heap.size = w.heap.size + 1 by simp] at this
    rw [hw3]; exact this)
  have VF := hide (show Vk w3 (w.heap.size + 1 + 1) 45 (by8 F) by
    have := Vk.new ((w.alloc (.cells #[.int .u32 (a : Int), .int .u32 (b : Int)] 41)).alloc (.cells #[.slice A0 n0 c0, .slice A1 n1 c1] 42)) 45 (by8 F)
    rw [show ((w.alloc (.cells #[.int .u32 (a : Int), .int .u32 (b : Int)] 41)).alloc (.cells #[.slice A0 n0 c0, .slice A1 n1 c1] 42)).heap.size = w.heap.size + 1 + 1 by simp] at this
    rw [hw3]; rw [HF.out] at this ⊢; exact this)
  rw [← hw3]
  clear hw3
  have g0 : w3.cell? ⟨w.heap.size, 0, none⟩ = some (.int .u32 (a : Int)) := by rw [VG.out.cell]; rfl
  have g1 : w3.cell? ⟨w.heap.size, 1, none⟩ = some (.int .u32 (b : Int)) := by rw [VG.out.cell]; rfl
  go_quiet (fail)
  have p0 : w3.cell? ⟨w.heap.size + 1, 0, none⟩ = some (.slice A0 n0 c0) := by rw [VB.out.cell]; rfl
  clear g0 g1
  go_wp2_with (first
    | (go_at_call_of 8 (Value.slice A0 n0 c0)
       refine (PA.out _ ?_).mono ?_
       · exact (H0.out.below hb3.out).drewN _
       intro e w4 hp
       unfold LaidPost at hp
       obtain ⟨bx, ox, cx, rfl, hltx, _, hrx, hb4⟩ := hp
       have hb34 := hide (show Below w3.heap.size w3 w4 from Below.then_ (Below.drewN' (Below.refl _ _) nq) hb4)
       have p1 : w4.cell? ⟨w.heap.size + 1, 1, none⟩ = some (.slice A1 n1 c1) := by rw [(VB.out.below hb34.out VB.out.lt).cell]; rfl
       have RX4 := hide hrx
       clear hrx hb4 p0)
    | (go_at_call_of 8 (Value.slice A1 n1 c1)
       refine (PB.out _ ?_).mono ?_
       · exact H1.out.below (Below.then_ hb3.out hb34.out)
       intro e w5 hp
       unfold LaidPost at hp
       obtain ⟨b_y, oy, cy, rfl, hlty, _, hry, hb5⟩ := hp
       have hb35 := hide (show Below w3.heap.size w3 w5 from Below.then_ hb34.out hb5)
       have RX := hide (RX4.out.below hb5)
       have hbx5 := Nat.lt_of_lt_of_le hltx hb5.size
       have RY := hide hry
       clear hry hb5 p1))
  go_loop [13] (fun i => ∃ k : Nat, k ≤ 4 ∧ i = .int .i64 k) (fun i => 4 - (intOf i).toNat)
  case atStart => exact ⟨0, Nat.zero_le _, rfl⟩
  case round =>
    obtain ⟨k, hk, rfl⟩ := hrel
    by_cases hlt : k < 4
    · obtain ⟨Ak, nk, ck, hck, hrk, _⟩ := RX.out.cell_ hlt
      obtain ⟨Bk, mk, dk, hdk, hsk, _⟩ := RY.out.cell_ hlt
      obtain rfl : nk = 256 := by rw [← hrk.len, nth_len L0.out k hlt]
      obtain rfl : mk = 256 := by rw [← hsk.len, nth_len L1.out k hlt]
      clear hrk hsk
      go_wp2_with fail
      go_round
      case rel => exact ⟨k + 1, by omega, by go_num⟩
      case measure => simp [intOf]; omega
    · obtain rfl : k = 4 := by omega
      have MX := hide (mixed_any bx ox cx b_y oy cy _ _ F _ HFl.out RX.out RY.out (nth_len L0.out) (nth_len L1.out))
      have VF5 := hide (VF.out.below hb35.out VF.out.lt)
      obtain ⟨L, hL⟩ : ∃ L, L = mixK (secs (1 + a) l0 4) (secs (1 + b) l1 4) (fateK F) (fateC F) 4 := ⟨_, rfl⟩
      have HT := hide (got_torn (by omega) (by omega) L0.out (by omega) (by omega) L1.out (show 1 + a ≠ 1 + b by have := HAB.out; omega) (fateK F) (fateC F) (fateC_le F) L hL)
      have HLL := hide (show L.length = 4 by rw [hL, mixK_length])
      rw [← hL] at MX
      clear hL
      go_wp2_with (first
        | ((with_reducible show wpList _ _ _ (⟨some 97, _, _, _, _, _⟩ :: _) _ _)
           refine wpList_load_row rfl 45 (.tmp 5) rfl (w.heap.size + 1 + 1) rfl 45 (by8 F).toArray (0, 0) _ VF5.out Try.underlying45 rfl (by rw [show (by8 F).toArray.size = 8 by simp [by8_length, HFl.out]]; kernel_rfl) ?_)
        | (go_at_call 18
           refine MX.out.mono ?_
           rintro e w6 ⟨O, cO, rfl, hrO, hb6⟩
           have RO := hide hrO
           have hb36 := hide (Below.then_ hb35.out hb6)
           clear hrO hb6)
        | (go_at_call 12
           refine (get_any _ _ _ L _ RO.out).mono ?_
           rintro e w7 ⟨AG, nG, cG, rfl, hrG, _, hb7⟩
           have RG := hide hrG
           have RO7 := hide (RO.out.below hb7)
           have hb37 := hide (Below.then_ hb36.out hb7)
           clear hrG hb7))
      have hbs7 := hide hb37.out.size
      obtain ⟨E, hE⟩ : ∃ E, getE L = E := ⟨_, rfl⟩
      obtain ⟨G, hG⟩ : ∃ G, getN L = G := ⟨_, rfl⟩
      obtain ⟨B, hB⟩ : ∃ B, getB L = B := ⟨_, rfl⟩
      rw [hE, hG, hB] at HT
      rw [hB] at RG
      rw [hE, hG]
      clear hE hG hB hlt hk hltx hlty hbx5
      go_loopw [18, 19, 20, 109] (fun i _ _ _ wr => ∃ k : Nat, k ≤ 4 ∧ i = .int .i64 k ∧ Below w7.heap.size w7 wr) (fun i _ _ _ _ => 4 - (intOf i).toNat)
      case atStart => exact ⟨0, Nat.zero_le _, rfl, Below.refl _ _⟩
      case round =>
        obtain ⟨k, hk, rfl, hbr⟩ := hrel
        by_cases hlt : k < 4
        · have ROr := hide (RO7.out.below hbr)
          obtain ⟨b, o, Ak, nk, ck, rfl, _, hck, hrk, hnck, _⟩ := ROr.out.at_ hlt
          rw [show L.getD k [] = nth L k from rfl] at hrk
          have RK := hide hrk
          have hsn := stamp_seen L 4 k hlt
          have St := hide (stamp_any Ak nk ck (nth L k) wr hnck RK.out)
          unfold StampPost at St
          obtain ⟨SB, hSB⟩ : ∃ B, stampB (nth L k) = B := ⟨_, rfl⟩
          obtain ⟨SN, hSN⟩ : ∃ B, stampN (nth L k) = B := ⟨_, rfl⟩
          rw [hSB, hSN] at hsn St
          obtain ⟨SK, hSK⟩ : ∃ B, seenK L 4 = B := ⟨_, rfl⟩
          have HSe := hide (fun w h => seen_any (some ⟨b, o, none⟩) 4 cO L w (by omega) h)
          rw [hSK] at hsn HSe
          clear hrk hSB hSN hSK
          cases SB
          · clear hsn
            go_wp2_with (first
              | (go_at_call 14; refine St.out.mono ?_; rintro e w8 ⟨rfl, hb8⟩))
            go_roundw
            case rel => exact ⟨k + 1, by omega, by go_num, Below.then_ hbr hb8⟩
            case measure => simp [intOf]; omega
          · have dS : decide (SK < SN) = false := by have := hsn rfl; simp; omega
            clear hsn
            go_wp2_with (first
              | (go_at_call 14; refine St.out.mono ?_; rintro e w8 ⟨rfl, hb8⟩)
              | (go_at_call 16; refine (HSe.out _ (ROr.out.below hb8)).mono ?_; rintro e w9 ⟨rfl, hb9⟩))
            go_roundw
            case rel => exact ⟨k + 1, by omega, by go_num, Below.then_ (Below.then_ hbr hb8) hb9⟩
            case measure => simp [intOf]; omega
        · obtain rfl : k = 4 := by omega
          have hbw := hide (Below.then_ hb3.out (Below.then_ hb37.out hbr))
          have q0 : wr.cell? ⟨w.heap.size + 1, 0, none⟩ = some (.slice A0 n0 c0) := by rw [(VB.out.below (Below.then_ hb37.out hbr) VB.out.lt).cell]; rfl
          have q1 : wr.cell? ⟨w.heap.size + 1, 1, none⟩ = some (.slice A1 n1 c1) := by rw [(VB.out.below (Below.then_ hb37.out hbr) VB.out.lt).cell]; rfl
          have RGr := hide (RG.out.below hbr)
          have H0r := hide (H0.out.below hbw.out)
          have H1r := hide (H1.out.below hbw.out)
          rcases HT.out with rfl | ⟨rfl, hG, rfl⟩ | ⟨rfl, hG, rfl⟩
          · clear q0 q1
            go_wp2_with (go_at_call 7; refine (awake_any _).mono ?_; rintro e w8 ⟨rfl, hb8⟩)
            go_ret
            exact ⟨rfl, Below.then_ hbw.out hb8⟩
          · have n1 : ((G : Int) == 1 + (a : Int)) = true := by rw [beq_iff_eq]; omega
            clear hG
            go_wp2_with (first
              | ((with_reducible show wpList _ _ _ (⟨some 136, _, _, _, _, _⟩ :: _) _ _)
                 refine wpList_cv rfl (.tmp 135) 22 5 9 rfl Try.underlying22 Try.underlying5 Try.underlying9 _ _ _ rfl B RGr.out ?_)
              | ((with_reducible show wpList _ _ _ (⟨some 139, _, _, _, _, _⟩ :: _) _ _)
                 refine wpList_cv rfl (.tmp 138) 22 5 9 rfl Try.underlying22 Try.underlying5 Try.underlying9 _ _ _ rfl B H0r.out ?_)
              | (go_at_call 7; refine (awake_any _).mono ?_; rintro e w8 ⟨rfl, hb8⟩))
            go_ret
            exact ⟨rfl, Below.then_ hbw.out hb8⟩
          · have n0 : ((G : Int) == 1 + (a : Int)) = false := by rw [beq_eq_false_iff_ne]; have := HAB.out; omega
            have n1 : ((G : Int) == 1 + (b : Int)) = true := by rw [beq_iff_eq]; omega
            clear hG
            go_wp2_with (first
              | ((with_reducible show wpList _ _ _ (⟨some 148, _, _, _, _, _⟩ :: _) _ _)
                 refine wpList_cv rfl (.tmp 147) 22 5 9 rfl Try.underlying22 Try.underlying5 Try.underlying9 _ _ _ rfl B RGr.out ?_)
              | ((with_reducible show wpList _ _ _ (⟨some 151, _, _, _, _, _⟩ :: _) _ _)
                 refine wpList_cv rfl (.tmp 150) 22 5 9 rfl Try.underlying22 Try.underlying5 Try.underlying9 _ _ _ rfl B H1r.out ?_)
              | (go_at_call 7; refine (awake_any _).mono ?_; rintro e w8 ⟨rfl, hb8⟩))
            go_ret
            exact ⟨rfl, Below.then_ hbw.out hb8⟩

theorem torn_any (a b : Int) (ha : 0 ≤ a ∧ a ≤ 4294967295) (hb : 0 ≤ b ∧ b ≤ 4294967295) (A0 : Option Addr) (n0 c0 : Nat) (l0 : List UInt8) (A1 : Option Addr) (n1 c1 : Nat) (l1 : List UInt8) (F : List UInt8) (hF : F.length = 8) (w : World)
    (h0 : Rb w A0 n0 l0) (h1 : Rb w A1 n1 l1) :
    Calls Try.prog 5 #[.agg #[.int .u32 a, .int .u32 b], .agg #[.slice A0 n0 c0, .slice A1 n1 c1], .agg (by8 F).toArray] w fun e w' => e = .returned (.bool true) ∧ Below w.heap.size w w' := by
  obtain ⟨F0, F1, F2, F3, F4, F5, F6, F7, hF8⟩ := eight_of F hF
  by_cases hd : 954 < n0 ∨ 954 < n1 ∨ a = b
  · subst hF8
    exact torn_out a b A0 n0 c0 A1 n1 c1 F0 F1 F2 F3 F4 F5 F6 F7 w hd
  · obtain ⟨a', rfl⟩ : ∃ a' : Nat, a = a' := ⟨a.toNat, by omega⟩
    obtain ⟨b', rfl⟩ : ∃ b' : Nat, b = b' := ⟨b.toNat, by omega⟩
    have := torn_in a' b' (by omega) (by omega) (by omega) A0 n0 c0 l0 A1 n1 c1 l1 F F0 F1 F2 F3 F4 F5 F6 F7 hF8 w h0 h1 (by omega) (by omega)
    rw [hF8]
    exact this
end Go.Proofs.Ytelhjficggoliaa
