/- The walk of the law WalsecReads. -/
import Derived.Test.YtmdhckcoinhfpaaWk
import Derived.Test.YtmdhckcoinhfpaaWjr
namespace Go.Proofs.Ytmdhckcoinhfpaa
open Go.RowKit

set_option maxRecDepth 4000 in
set_option maxHeartbeats 8000000 in
theorem reads_any (A : Option Addr) (n c : Nat) (L : List (List UInt8)) (e a : Int) (w : World) (h : Rbb w A n L) :
    Calls Try.prog 4 #[.slice A n c, .int .i64 e, .int .i64 a] w fun r w' => r = .returned (.bool true) ∧ Below w.heap.size w w' := by
  have H := hide h
  clear h
  by_cases hn : 12 < n
  · have d0 : decide (12 < (n : Int)) = true := by simp; omega
    clear hn
    go_enter Try.func4, Try.ntmps4
    go_wp2_with (go_at_call 8; refine (awake_any _).mono ?_; rintro r w6 ⟨rfl, hb6⟩)
    go_ret
    exact ⟨rfl, hb6⟩
  · have d0 : decide (12 < (n : Int)) = false := by simp; omega
    go_enter Try.func4, Try.ntmps4
    go_wp2_with fail
    go_loopw [7, 8, 9, 10, 11] (fun i _ _ _ _ wr => ∃ k : Nat, k ≤ n ∧ i = .int .i64 k ∧ Below w.heap.size w wr) (fun i _ _ _ _ _ => n - (intOf i).toNat)
    case atStart => exact ⟨0, Nat.zero_le _, rfl, Below.refl _ _⟩
    case round =>
      obtain ⟨k, hk, rfl, hbr⟩ := hrel
      have HB := hide hbr
      by_cases hlt : k < n
      · obtain ⟨b, o, Ak, nk, ck, rfl, hb, hck, hrk, hnck, _⟩ := H.out.at_ hlt
        have cr : wr.cell? ⟨b, o + k, none⟩ = some (.slice Ak nk ck) := (hbr.cell (p := ⟨b, o + k, none⟩) hb).trans hck
        have RK := hide hrk
        have HBB := hide hb
        have CK := hide hck
        have HN := hide hnck
        clear hbr hck hrk hb hnck
        by_cases hl : 300 < nk
        · have d1 : decide (300 < (nk : Int)) = true := by simp; omega
          go_wp2_with (go_at_call 8; refine (awake_any _).mono ?_; rintro r w6 ⟨rfl, hb6⟩)
          go_ret
          exact ⟨rfl, Below.then_ HB.out hb6⟩
        · have d1 : decide (300 < (nk : Int)) = false := by simp; omega
          obtain ⟨X, hX⟩ : ∃ X, readS (nthB L k) e a = X := ⟨_, rfl⟩
          have R1 := hide (read_any e a Ak nk ck (nthB L k) wr HN.out (Rb.below RK.out HB.out))
          have R2 := hide (fun w h => rread_any e a Ak nk ck (nthB L k) w HN.out h)
          unfold ReadPost at R1 R2
          rw [hX] at R1 R2
          obtain ⟨T, q⟩ := X
          clear hX
          dsimp only at R1 R2
          have dq : (q != q) = false := by cases q <;> rfl
          go_wp2_with (first
            | (go_at_call 14; refine R1.out.mono ?_; rintro r w1 ⟨A1, n1, c1, rfl, hr1, hn1, _, hb1⟩
               have S1 := hide hr1
               have HB1 := hide (Below.then_ HB.out hb1)
               have HN1 := hide hn1
               have c1' : w1.cell? ⟨b, o + k, none⟩ = some (.slice Ak nk ck) := (HB1.out.cell (p := ⟨b, o + k, none⟩) HBB.out).trans CK.out
               clear hr1 hb1 hn1 cr)
            | (go_at_call 15; refine (R2.out _ (Rb.below RK.out HB1.out)).mono ?_; rintro r w2 ⟨A2, n2, c2, rfl, hr2, _, _, hb2⟩
               have S2 := hide hr2
               have S12 := hide (S1.out.below hb2)
               have HB2 := hide (Below.then_ HB1.out hb2)
               clear hr2 hb2)
            | (go_at_call 16; refine (sames_any _ _ _ _ _ _ _ _ _ (by have := HN1.out; omega) S12.out S2.out).mono ?_; rintro r w3 ⟨rfl, hb3⟩
               rw [decide_eq_true (rfl : T = T)]
               have HB3 := hide (Below.then_ HB2.out hb3)
               clear hb3))
          go_roundw
          case rel => exact ⟨k + 1, by omega, by go_num, HB3.out⟩
          case measure => simp [intOf]; omega
      · obtain rfl : k = n := by omega
        have R0 := hide (H.out.below hbr)
        have SC1 := hide (scan_any e A k c L wr (by omega) R0.out)
        have SC2 := hide (fun w h => rscan_any e A k c L w (by omega) h)
        unfold ScanPost at SC1 SC2
        have hlen : (textK L e (scanN L e)).length ≤ 100000 := by
          have h1 := textK_len L e (scanN L e)
          have h2 : scanN L e ≤ L.length := (scanN_spec L e).1
          have h3 := R0.out.1
          have : scanN L e * 239 ≤ 12 * 239 := Nat.mul_le_mul_right _ (by omega)
          omega
        obtain ⟨T, hT⟩ : ∃ T, textK L e (scanN L e) = T := ⟨_, rfl⟩
        obtain ⟨m, hm⟩ : ∃ m, scanN L e = m := ⟨_, rfl⟩
        rw [hT] at SC1 SC2 hlen
        rw [hm] at SC1 SC2
        have HL := hide hlen
        clear hbr hT hm hlen
        go_wp2_with (first
          | (go_at_call 17; refine SC1.out.mono ?_; rintro r w1 ⟨A1, n1, c1, rfl, hr1, _, hb1⟩
             have S1 := hide hr1
             have HB1 := hide (Below.then_ HB.out hb1)
             clear hr1 hb1)
          | (go_at_call 18; refine (SC2.out _ (H.out.below HB1.out)).mono ?_; rintro r w2 ⟨A2, n2, c2, rfl, hr2, _, hb2⟩
             have S2 := hide hr2
             have S12 := hide (S1.out.below hb2)
             have HB2 := hide (Below.then_ HB1.out hb2)
             clear hr2 hb2)
          | (go_at_call 16; refine (sames_any _ _ _ _ _ _ _ _ _ (by have h1 := S12.out.len; have := HL.out; omega) S12.out S2.out).mono ?_; rintro r w3 ⟨rfl, hb3⟩
             rw [decide_eq_true (rfl : T = T)]
             have HB3 := hide (Below.then_ HB2.out hb3)
             clear hb3)
          | (go_at_call 8; refine (awake_any _).mono ?_; rintro r w6 ⟨rfl, hb6⟩))
        go_ret
        exact ⟨rfl, Below.then_ HB3.out hb6⟩
end Go.Proofs.Ytmdhckcoinhfpaa
