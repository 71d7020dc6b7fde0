/- The walks of the laws SlotPuts and SlotGets. -/
import Derived.Test.YtelhjficggoliaaWl
import Derived.Test.YtelhjficggoliaaWk
namespace Go.Proofs.Ytelhjficggoliaa
open Go.RowKit

theorem putL_len (g : Int) (l : List UInt8) : (putL g l).length ≤ 4 := by
  unfold putL
  split
  · rw [secs_length]; exact Nat.le_refl _
  · simp
set_option maxHeartbeats 4000000 in
theorem puts_any (g : Int) (A : Option Addr) (n c : Nat) (l : List UInt8) (w : World) (h : Rb w A n l) :
    Calls Try.prog 3 #[.int .i64 g, .slice A n c] w fun e w' => e = .returned (.bool true) ∧ Below w.heap.size w w' := by
  by_cases hn : 1200 < n
  · have hd : decide (1200 < (n : Int)) = true := by simp; omega
    clear h hn
    go_enter Try.func3, Try.ntmps3
    go_wp2_with (go_at_call 7; refine (awake_any _).mono ?_; rintro e w1 ⟨rfl, hb⟩)
    go_ret
    exact ⟨rfl, hb⟩
  · have hd : decide (1200 < (n : Int)) = false := by simp; omega
    have H := hide h
    have hlen := putL_len g l
    clear h hn
    have P1 := hide (fun w (h : Rb w A n l) => put_any g A n c l w h)
    have P2 := hide (fun w (h : Rb w A n l) => rput_any g A n c l w h)
    obtain ⟨E, hE⟩ : ∃ E, putE g l = E := ⟨_, rfl⟩
    obtain ⟨M, hM⟩ : ∃ M, putL g l = M := ⟨_, rfl⟩
    unfold PutPost at P1 P2
    rw [hE, hM] at P1 P2
    rw [hM] at hlen
    clear hE hM
    go_enter Try.func3, Try.ntmps3
    go_wp2_with (first
      | (go_at_call 8; refine (P1.out _ H.out).mono ?_; rintro e w1 ⟨A1, n1, c1, rfl, ho1, hb1⟩
         have R1 := hide ho1.rbb
         obtain rfl := ho1.1
         clear ho1)
      | (go_at_call 9; refine (P2.out _ (H.out.below hb1)).mono ?_; rintro e w2 ⟨A2, n2, c2, rfl, ho2, hb2⟩
         have R2 := hide ho2.rbb
         have R12 := hide (R1.out.below hb2)
         have hb12 := Below.then_ hb1 hb2
         clear ho2)
      | (go_at_call 10; refine (same_any _ _ _ _ _ _ _ _ _ (by omega) R12.out R2.out).mono ?_; rintro e w3 ⟨rfl, hb3⟩
         rw [decide_eq_true (rfl : M = M)]
         have hb13 := Below.then_ hb12 hb3)
      | (go_at_call 7; refine (awake_any _).mono ?_; rintro e w4 ⟨rfl, hb4⟩))
    go_ret
    exact ⟨rfl, Below.then_ hb13 hb4⟩

set_option maxRecDepth 4000 in
set_option maxHeartbeats 8000000 in
theorem gets_any (A : Option Addr) (n c : Nat) (L : List (List UInt8)) (w : World) (h : Rbb w A n L) :
    Calls Try.prog 4 #[.slice A n c] w fun e w' => e = .returned (.bool true) ∧ Below w.heap.size w w' := by
  have H := hide h
  have hL := hide h.1
  clear h
  by_cases hl : light L = true
  · have LI := hide (fun w (h : Rbb w A n L) => light_any A n c L w h)
    rw [hl] at LI
    have hn : n ≤ 10 := by have := light_len hl; have := hL.out; omega
    clear hl
    have G1 := hide (fun w (h : Rbb w A n L) => get_any A n c L w h)
    have G2 := hide (fun w (h : Rbb w A n L) => rget_any A n c L w h)
    unfold GetPost at G1 G2
    obtain ⟨E, hE⟩ : ∃ E, getE L = E := ⟨_, rfl⟩
    obtain ⟨M, hM⟩ : ∃ M, getN L = M := ⟨_, rfl⟩
    obtain ⟨B, hB⟩ : ∃ B, getB L = B := ⟨_, rfl⟩
    rw [hE, hM, hB] at G1 G2
    clear hE hM hB
    go_enter Try.func4, Try.ntmps4
    go_wp2_with (first
      | (go_at_call 11; refine (LI.out _ H.out).mono ?_; rintro e w1 ⟨rfl, rfl⟩)
      | (go_at_call 12; refine (G1.out _ H.out).mono ?_; rintro e w1 ⟨A1, n1, c1, rfl, hr1, hx1, hb1⟩
         have R1 := hide hr1
         clear hr1 hx1)
      | (go_at_call 13; refine (G2.out _ (H.out.below hb1)).mono ?_; rintro e w2 ⟨A2, n2, c2, rfl, hr2, hx2, hb2⟩
         have R2 := hide hr2
         have R12 := hide (R1.out.below hb2)
         have hb12 := Below.then_ hb1 hb2
         clear hr2 hx2))
    go_loopw [9, 10, 11, 12, 13, 36, 44] (fun i _ _ _ _ _ _ wr => ∃ k : Nat, k ≤ n ∧ i = .int .i64 k ∧ Below w2.heap.size w2 wr) (fun i _ _ _ _ _ _ _ => n - (intOf i).toNat)
    case atStart => exact ⟨0, Nat.zero_le _, rfl, Below.refl _ _⟩
    case round =>
      obtain ⟨k, hk, rfl, hbr⟩ := hrel
      have hbw := Below.then_ hb12 hbr
      by_cases hlt : k < n
      · obtain ⟨b, o, Ak, nk, ck, rfl, hb, hck, hrk, hnck, _⟩ := H.out.at_ hlt
        have hcr : wr.cell? ⟨b, o + k, none⟩ = some (.slice Ak nk ck) := (hbw.cell (p := ⟨b, o + k, none⟩) hb).trans hck
        obtain ⟨l, hl⟩ : ∃ l, nth L k = l := ⟨_, rfl⟩
        rw [show L.getD k [] = l from hl] at hrk
        have RK := hide (hrk.below hbw)
        have hbs := hide hbw.size
        clear hck hrk hl
        have S1 := hide (fun w (h : Rb w Ak nk l) => stamp_any Ak nk ck l w hnck h)
        have S2 := hide (fun w (h : Rb w Ak nk l) => rstamp_any Ak nk ck l w hnck h)
        unfold StampPost at S1 S2
        obtain ⟨SN, hSN⟩ : ∃ S, stampN l = S := ⟨_, rfl⟩
        obtain ⟨SB, hSB⟩ : ∃ S, stampB l = S := ⟨_, rfl⟩
        rw [hSN, hSB] at S1 S2
        clear hSN hSB
        go_wp2_with (first
          | (go_at_call 14; refine (S1.out _ RK.out).mono ?_; rintro e w3 ⟨rfl, hb3⟩
             have hcr3 := (hb3.cell (p := ⟨b, o + k, none⟩) (Nat.lt_of_lt_of_le hb hbs.out)).trans hcr)
          | (go_at_call 15; refine (S2.out _ (RK.out.below hb3)).mono ?_; rintro e w4 ⟨rfl, hb4⟩))
        go_roundw
        case rel => exact ⟨k + 1, by omega, by go_num, Below.then_ (Below.then_ hbr hb3) hb4⟩
        case measure => simp [intOf]; omega
      · obtain rfl : k = n := by omega
        have HW := hide (H.out.below hbw)
        have R1W := hide (R12.out.below hbr)
        have R2W := hide (R2.out.below hbr)
        have HS := hide (fun w (h : Rbb w A k L) => seen_any A k c L w (by omega) h)
        have HT := hide (fun w (h : Rbb w A k L) => rseen_any A k c L w (by omega) h)
        obtain ⟨S, hS⟩ : ∃ S, seenK L k = S := ⟨_, rfl⟩
        rw [hS] at HS HT
        clear hS
        go_wp2_with (first
          | ((with_reducible show wpList _ _ _ (⟨some 65, _, _, _, _, _⟩ :: _) _ _)
             refine wpList_cv rfl (.tmp 64) 22 5 9 rfl Try.underlying22 Try.underlying5 Try.underlying9 _ _ _ rfl B R1W.out ?_)
          | ((with_reducible show wpList _ _ _ (⟨some 67, _, _, _, _, _⟩ :: _) _ _)
             refine wpList_cv rfl (.tmp 66) 22 5 9 rfl Try.underlying22 Try.underlying5 Try.underlying9 _ _ _ rfl B R2W.out ?_)
          | (go_at_call 16; refine (HS.out _ HW.out).mono ?_; rintro e w5 ⟨rfl, hb5⟩)
          | (go_at_call 17; refine (HT.out _ (HW.out.below hb5)).mono ?_; rintro e w6 ⟨rfl, hb6⟩)
          | (go_at_call 7; refine (awake_any _).mono ?_; rintro e w7 ⟨rfl, hb7⟩))
        go_ret
        exact ⟨rfl, Below.then_ (Below.then_ (Below.then_ hbw hb5) hb6) hb7⟩
  · have hl' : light L = false := by simpa using hl
    have LI := hide (fun w (h : Rbb w A n L) => light_any A n c L w h)
    rw [hl'] at LI
    clear hl hl'
    go_enter Try.func4, Try.ntmps4
    go_wp2_with (first
      | (go_at_call 11; refine (LI.out _ H.out).mono ?_; rintro e w1 ⟨rfl, rfl⟩)
      | (go_at_call 7; refine (awake_any _).mono ?_; rintro e w7 ⟨rfl, hb7⟩))
    go_ret
    exact ⟨rfl, hb7⟩
end Go.Proofs.Ytelhjficggoliaa
