/- The walk of 'mixed': sectors of two writings. -/
import Derived.Test.YtelhjficggoliaaWm
import Derived.Test.YtelhjficggoliaaTorn
import Derived.Test.YtelhjficggoliaaStep
namespace Go.Proofs.Ytelhjficggoliaa
open Go.RowKit

def fateK (F : List UInt8) (i : Nat) : Nat := (F.getD (i * 2) 0).toNat
def fateC (F : List UInt8) (i : Nat) : Nat := (F.getD (i * 2 + 1) 0).toNat
theorem fateC_le (F : List UInt8) (i : Nat) : fateC F i ≤ 256 := by
  unfold fateC; have := (F.getD (i * 2 + 1) 0).toNat_lt; omega

theorem Rbb.cell4 {w : World} {b o n : Nat} {L : List (List UInt8)} (h : Rbb w (some ⟨b, o, none⟩) n L) {k : Nat} (hk : k < n) :
    ∃ Ai ni ci, w.cell? ⟨b, o + k, none⟩ = some (.slice Ai ni ci) ∧ Rb w Ai ni (nth L k) ∧ ni ≤ ci ∧ ci ≤ maxLen := by
  obtain ⟨b', o', Ai, ni, ci, e, _, hc, hr, h1, h2⟩ := h.at_ hk
  injection e with e
  injection e with e1 e2
  subst e1; subst e2
  exact ⟨Ai, ni, ci, hc, hr, h1, h2⟩
set_option maxRecDepth 4000 in
set_option maxHeartbeats 8000000 in
theorem mixed_any (bA oA cA bB oB cB : Nat) (X Y : List (List UInt8)) (F : List UInt8) (w : World) (hF : F.length = 8) (hx : Rbb w (some ⟨bA, oA, none⟩) 4 X) (hy : Rbb w (some ⟨bB, oB, none⟩) 4 Y)
    (lx : ∀ i, i < 4 → (nth X i).length = 256) (ly : ∀ i, i < 4 → (nth Y i).length = 256) :
    Calls Try.prog 18 #[.slice (some ⟨bA, oA, none⟩) 4 cA, .slice (some ⟨bB, oB, none⟩) 4 cB, .agg (by8 F).toArray] w fun e w' => ∃ O c, e = .returned (.slice O 4 c) ∧ Rbb w' O 4 (mixK X Y (fateK F) (fateC F) 4) ∧ Below w.heap.size w w' := by
  obtain ⟨a0, a1, a2, a3, a4, a5, a6, a7, hF8⟩ := eight_of F hF
  have HX := hide hx
  have HY := hide hy
  have hbA := hx.lt_ (by omega)
  have hbB := hy.lt_ (by omega)
  have LX := hide lx
  have LY := hide ly
  have HF := hide hF8
  have HFl := hide hF
  clear hx hy lx ly hF
  obtain ⟨MK, hMK⟩ : ∃ MK, mixK X Y (fateK F) (fateC F) = MK := ⟨_, rfl⟩
  rw [hMK, hF8]
  have HM := hide (fun k => (show MK (k + 1) = MK k ++ [mixOne (nth X k) (nth Y k) (fateK F k) (fateC F k)] by rw [← hMK, mixK_succ]))
  have HM0 := hide (show MK 0 = [] by rw [← hMK]; rfl)
  have HML := hide (fun k => (show (MK k).length = k by rw [← hMK, mixK_length]))
  clear hF8 hMK
  show Calls Try.prog 18 #[_, _, .agg #[.int .u8 (a0.toNat : Int), .int .u8 (a1.toNat : Int), .int .u8 (a2.toNat : Int), .int .u8 (a3.toNat : Int), .int .u8 (a4.toNat : Int), .int .u8 (a5.toNat : Int), .int .u8 (a6.toNat : Int), .int .u8 (a7.toNat : Int)]] w _
  go_enter Try.func18, Try.ntmps18
  go_wp2_with fail
  obtain ⟨w1, hw1⟩ : ∃ w1, w1 = w.alloc (.cells #[.int .u8 (a0.toNat : Int), .int .u8 (a1.toNat : Int), .int .u8 (a2.toNat : Int), .int .u8 (a3.toNat : Int), .int .u8 (a4.toNat : Int), .int .u8 (a5.toNat : Int), .int .u8 (a6.toNat : Int), .int .u8 (a7.toNat : Int)] 45) := ⟨_, rfl⟩
  have V1 := hide (show Vk w1 w.heap.size 45 (by8 F) by rw [hw1, HF.out]; exact Vk.new w 45 _)
  have hb1 : Below w.heap.size w w1 := by rw [hw1]; exact Below.al (Below.refl _ _) _
  rw [← hw1]
  clear hw1
  go_loopw [7, 8, 9] (fun o i _ wr => ∃ (k : Nat) (A : Option Addr) (c : Nat), k ≤ 4 ∧ i = .int .i64 k ∧ o = .slice A k c ∧ Mbb 22 5 w wr w1.heap.size A c k (MK k) ∧ Below w1.heap.size w1 wr) (fun _ i _ _ => 4 - (intOf i).toNat)
  case atStart => exact ⟨0, none, 0, Nat.zero_le _, rfl, rfl, by rw [HM0.out]; exact Mbb.nil _ _ _, Below.refl _ _⟩
  case round =>
    obtain ⟨k, Ao, co, hk, rfl, rfl, hm, hbr⟩ := hrel
    have hbw := Below.then_ hb1 hbr
    have M := hide hm
    clear hm
    by_cases hlt : k < 4
    · obtain ⟨Ax, nx, qx, cx, rx, hqx, hmx⟩ := HX.out.cell4 hlt
      obtain ⟨Ay, ny, qy, cy, ry, hqy, hmy⟩ := HY.out.cell4 hlt
      have QX := hide hmx
      have QY := hide hmy
      have cxr : wr.cell? ⟨bA, oA + k, none⟩ = some (.slice Ax nx qx) := (hbw.cell (p := ⟨bA, oA + k, none⟩) hbA).trans cx
      have cyr : wr.cell? ⟨bB, oB + k, none⟩ = some (.slice Ay ny qy) := (hbw.cell (p := ⟨bB, oB + k, none⟩) hbB).trans cy
      obtain rfl : nx = 256 := by rw [← rx.len, LX.out k hlt]
      obtain rfl : ny = 256 := by rw [← ry.len, LY.out k hlt]
      have RX := hide rx
      have RY := hide ry
      obtain ⟨x, hx⟩ : ∃ x, F.getD (k * 2) 0 = x := ⟨_, rfl⟩
      obtain ⟨y, hy⟩ : ∃ y, F.getD (k * 2 + 1) 0 = y := ⟨_, rfl⟩
      have VR := V1.out.below hbr V1.out.lt
      have ca : wr.cell? ⟨w.heap.size, k * 2, none⟩ = some (.int .u8 (x.toNat : Int)) := by rw [VR.cell, by8_get _ _ (by rw [HFl.out]; omega), hx]
      have cb : wr.cell? ⟨w.heap.size, k * 2 + 1, none⟩ = some (.int .u8 (y.toNat : Int)) := by rw [VR.cell, by8_get _ _ (by rw [HFl.out]; omega), hy]
      clear cx cy rx ry VR hmx hmy
      have hx1 := x.toNat_lt
      have hy1 := y.toNat_lt
      have hk63 := hide (show k + 1 ≤ maxLen by unfold maxLen; omega)
      have EM := HM.out k
      unfold mixOne fateK fateC at EM
      rw [hx, hy] at EM
      clear hx hy
      by_cases h0 : x.toNat % 3 = 0
      · have d0 : ((x.toNat : Int) % 3 == 0) = true := by rw [beq_iff_eq]; omega
        rw [if_pos h0] at EM
        have HE := hide EM
        clear EM
        go_wp2_with (first
        | ((with_reducible show wpList _ _ _ (⟨some 50, _, _, _, _, _⟩ :: _) _ _)
           have N6 : Rd (wr.alloc (.cells #[.slice Ax 256 qx] 22)) (some ⟨wr.heap.size, 0, none⟩) 1 1 [.slice Ax 256 qx] := (Vk.new wr 22 [.slice Ax 256 qx]).rd 1 1 rfl
           have N7 : w1.heap.size ≤ (wr.alloc (.cells #[.slice Ax 256 qx] 22)).heap.size := by simp; have := hbr.size; omega
           obtain ⟨hl, vs, ho, hi⟩ := M.out.below (Below.al (Below.refl _ _) (.cells #[.slice Ax 256 qx] 22))
           refine wpList_app rfl (.tmp 44) (.tmp 49) 24 rfl w1.heap.size 22 (.slice none 0 0) 1 24 Try.underlying24 info22 rfl (by omega) _ _ k vs rfl ho _ 1 _ [.slice Ax 256 qx] rfl N6 (by simp [Value.oneCell']) hk63.out (by omega) N7 ?_
           intro A6 c6 w6 hown hgr hz
           clear hz
           have hb6 : Below w1.heap.size w1 w6 := (Below.al hbr _).grown hgr N7 (fun j hj => (own_lt ho j hj).1)
           have O6 := hide (Mbb.push (by decide) hl hi ho hqx QX.out (.inl RX.out) hown hgr)
           clear hown hgr ho hi hl N6 N7))
        go_roundw
        case rel => exact ⟨k + 1, A6, c6, by omega, by go_num, rfl, by rw [HE.out]; exact O6.out, hb6⟩
        case measure => simp [intOf]; omega
      · have d0 : ((x.toNat : Int) % 3 == 0) = false := by rw [beq_eq_false_iff_ne]; omega
        rw [if_neg h0] at EM
        by_cases h1 : x.toNat % 3 = 1
        · have d1 : ((x.toNat : Int) % 3 == 1) = true := by rw [beq_iff_eq]; omega
          rw [if_pos h1] at EM
          have HE := hide EM
          clear EM
          go_wp2_with (first
          | ((with_reducible show wpList _ _ _ (⟨some 59, _, _, _, _, _⟩ :: _) _ _)
             have N6 : Rd (wr.alloc (.cells #[.slice Ay 256 qy] 22)) (some ⟨wr.heap.size, 0, none⟩) 1 1 [.slice Ay 256 qy] := (Vk.new wr 22 [.slice Ay 256 qy]).rd 1 1 rfl
             have N7 : w1.heap.size ≤ (wr.alloc (.cells #[.slice Ay 256 qy] 22)).heap.size := by simp; have := hbr.size; omega
             obtain ⟨hl, vs, ho, hi⟩ := M.out.below (Below.al (Below.refl _ _) (.cells #[.slice Ay 256 qy] 22))
             refine wpList_app rfl (.tmp 53) (.tmp 58) 24 rfl w1.heap.size 22 (.slice none 0 0) 1 24 Try.underlying24 info22 rfl (by omega) _ _ k vs rfl ho _ 1 _ [.slice Ay 256 qy] rfl N6 (by simp [Value.oneCell']) hk63.out (by omega) N7 ?_
             intro A6 c6 w6 hown hgr hz
             clear hz
             have hb6 : Below w1.heap.size w1 w6 := (Below.al hbr _).grown hgr N7 (fun j hj => (own_lt ho j hj).1)
             have O6 := hide (Mbb.push (by decide) hl hi ho hqy QY.out (.inl RY.out) hown hgr)
             clear hown hgr ho hi hl N6 N7))
          go_roundw
          case rel => exact ⟨k + 1, A6, c6, by omega, by go_num, rfl, by rw [HE.out]; exact O6.out, hb6⟩
          case measure => simp [intOf]; omega
        · have d1 : ((x.toNat : Int) % 3 == 1) = false := by rw [beq_eq_false_iff_ne]; omega
          rw [if_neg h1] at EM
          have HE := hide EM
          clear EM
          go_wp2_with fail
          have sy := run_hi slice22 size5 Ay 256 qy y.toNat (y.toNat : Int) rfl (by omega)
          have sx := run_lo slice22 size5 Ax 256 qx y.toNat (y.toNat : Int) rfl (by omega)
          have RY1 := hide (RY.out.hi_ y.toNat qy (by omega) hqy)
          have RX1 := hide (RX.out.lo_ y.toNat qx (by omega) hqx)
          obtain ⟨P1, hP1⟩ : ∃ P, cutA Ay qy 0 = P := ⟨_, rfl⟩
          obtain ⟨P2, hP2⟩ : ∃ P, cutA Ax qx y.toNat = P := ⟨_, rfl⟩
          rw [hP1] at sy RY1
          rw [hP2] at sx RX1
          clear hP1 hP2
          have N0 := hide (show (wr.alloc (.cells #[] 5)).drew.ownsRow wr.heap.size 5 1 (.slice (some ⟨wr.heap.size, 0, none⟩) 0 0) 0 [] from nil_own wr)
          have N1 := hide (show Rd (wr.alloc (.cells #[] 5)).drew P1 y.toNat 1 (by8 ((nth Y k).take y.toNat)) from rdb ((RY1.out.below hbw).alloc _))
          have N2 := hide (show wr.heap.size ≤ (wr.alloc (.cells #[] 5)).drew.heap.size by simp)
          have N3 := hide (show Below wr.heap.size wr (wr.alloc (.cells #[] 5)).drew from (Below.al (Below.refl _ _) _).drew)
          have N4 := hide (show (nth X k).length = 256 from LX.out k hlt)
          have N5 := hide (show (nth Y k).length = 256 from LY.out k hlt)
          have hbrs := hide hbr.size
          have HBW := hide hbw
          have KA := hide (Nat.lt_of_lt_of_le hbA hbw.size)
          have KB := hide (Nat.lt_of_lt_of_le hbB hbw.size)
          have KA1 := hide (Nat.lt_of_lt_of_le hbA hb1.size)
          have KB1 := hide (Nat.lt_of_lt_of_le hbB hb1.size)
          have HBR1 := hide (show wr.cell? ⟨bA, oA + k, none⟩ = w1.cell? ⟨bA, oA + k, none⟩ ∧ wr.cell? ⟨bB, oB + k, none⟩ = w1.cell? ⟨bB, oB + k, none⟩ from ⟨hbr.cell (p := ⟨bA, oA + k, none⟩) KA1.out, hbr.cell (p := ⟨bB, oB + k, none⟩) KB1.out⟩)
          have HBR := hide hbr
          clear hbw hbr
          go_region_held3 (fun z => z.cell? ⟨bA, oA + k, none⟩ = some (.slice Ax 256 qx) ∧ z.cell? ⟨bB, oB + k, none⟩ = some (.slice Ay 256 qy)) (first | go_keep | exact ⟨(HB3.out.cell (p := ⟨bA, oA + k, none⟩) KA.out).trans cxr, (HB3.out.cell (p := ⟨bB, oB + k, none⟩) KB.out).trans cyr⟩ | exact ⟨(HB2.out.cell (p := ⟨bA, oA + k, none⟩) KA.out).trans cxr, (HB2.out.cell (p := ⟨bB, oB + k, none⟩) KB.out).trans cyr⟩ | exact ⟨(HB6.out.cell (p := ⟨bA, oA + k, none⟩) KA1.out).trans (HBR1.out.1.symm.trans cxr), (HB6.out.cell (p := ⟨bB, oB + k, none⟩) KB1.out).trans (HBR1.out.2.symm.trans cyr)⟩)
            (first
              | (refine step_app rfl (.tmp 25) (.tmp 31) 22 rfl wr.heap.size 5 (.int .u8 0) 1 1 Try.underlying22 info5 rfl (by omega) (some ⟨wr.heap.size, 0, none⟩) 0 0 [] rfl ?_ P1 y.toNat qy (by8 ((nth Y k).take y.toNat)) rfl ?_ (by8_one _) ?_ ?_ ?_ ?_
                 · exact N0.out
                 · exact N1.out
                 · unfold maxLen; omega
                 · omega
                 · exact N2.out
                 intro A2 c2 w2 hown hgr hz
                 clear hz
                 have hb2 : Below wr.heap.size wr w2 := N3.out.grown hgr N2.out (fun j hj => (own_lt N0.out j hj).1)
                 rw [List.nil_append, Nat.zero_add] at hown
                 rw [Nat.zero_add]
                 have O2 := hide hown
                 have HB2 := hide hb2
                 clear hown hgr hb2)
              | (refine step_app rfl (.tmp 32) (.tmp 38) 22 rfl wr.heap.size 5 (.int .u8 0) 1 1 Try.underlying22 info5 rfl (by omega) A2 c2 y.toNat (by8 ((nth Y k).take y.toNat)) rfl ?_ P2 (256 - y.toNat) (qx - y.toNat) (by8 ((nth X k).drop y.toNat)) rfl ?_ (by8_one _) ?_ ?_ ?_ ?_
                 · exact O2.out
                 · exact rdb (RX1.out.below (Below.then_ HBW.out HB2.out))
                 · unfold maxLen; omega
                 · omega
                 · exact HB2.out.size
                 intro A3 c3 w3 hown hgr hz
                 clear hz
                 have hb3 : Below wr.heap.size wr w3 := HB2.out.grown hgr HB2.out.size (fun j hj => (own_lt O2.out j hj).1)
                 rw [← by8_append, show y.toNat + (256 - y.toNat) = 256 by omega] at hown
                 rw [show y.toNat + (256 - y.toNat) = 256 by omega]
                 have O3 := hide hown
                 have HB3 := hide hb3
                 clear hown hgr hb3)
              | (obtain ⟨hl, vs, ho, hi⟩ := M.out.below (Below.al HB3.out (.cells #[.slice A3 256 c3] 22))
                 refine step_app rfl (.tmp 24) (.tmp 40) 24 rfl w1.heap.size 22 (.slice none 0 0) 1 24 Try.underlying24 info22 rfl (by omega) Ao co k vs rfl ?_ (some ⟨w3.heap.size, 0, none⟩) 1 1 [.slice A3 256 c3] rfl ?_ ?_ ?_ ?_ ?_ ?_
                 · exact ho
                 · exact (Vk.new w3 22 [.slice A3 256 c3]).rd 1 1 rfl
                 · simp [Value.oneCell']
                 · exact hk63.out
                 · omega
                 · have := HB3.out.size; have := hbrs.out; simp; omega
                 intro A6 c6 w6 hown hgr hz
                 clear hz
                 have N7 : w1.heap.size ≤ (w3.alloc (.cells #[.slice A3 256 c3] 22)).heap.size := by have := HB3.out.size; have := hbrs.out; simp; omega
                 have hb6 : Below w1.heap.size w1 w6 := (Below.al (Below.then_ HBR.out HB3.out) _).grown hgr N7 (fun j hj => (own_lt ho j hj).1)
                 have N8 : (w3.alloc (.cells #[.slice A3 256 c3] 22)).ownsRow w1.heap.size 5 1 (.slice A3 256 c3) 256 (by8 ((nth Y k).take y.toNat ++ (nth X k).drop y.toNat)) := own_mono (own_below O3.out (Below.al (Below.refl _ _) _)) hbrs.out
                 have N9 := own_cap O3.out
                 have O6 := hide (Mbb.push (by decide) hl hi ho N9.1 N9.2 (.inr N8) hown hgr)
                 have HB6 := hide hb6
                 clear hown hgr ho hi hl N7 N8 N9 hb6))
          go_wp2_with fail
          go_roundw
          case rel => exact ⟨k + 1, A6, c6, by omega, by go_num, rfl, by rw [HE.out]; exact O6.out, HB6.out⟩
          case measure => simp [intOf]; omega
    · obtain rfl : k = 4 := by omega
      go_wp2_with fail
      go_ret
      exact ⟨_, _, rfl, M.out.rbb hbw, hbw⟩
end Go.Proofs.Ytelhjficggoliaa
