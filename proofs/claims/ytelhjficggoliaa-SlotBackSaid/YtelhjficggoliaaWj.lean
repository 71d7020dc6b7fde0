/- The walks of both Seens. -/
import Derived.Test.YtelhjficggoliaaWi
import Derived.Laws.Cover1
import Derived.Deep.DeepCutAuto
import Derived.Deep.CutBlock
namespace Go.Proofs.Ytelhjficggoliaa
open Go.RowKit

/-- The greatest generation of the first k sectors. -/
def seenK (L : List (List UInt8)) : Nat → Nat
  | 0 => 0
  | k + 1 => if (nth L k).length = 256 then max (max (seenK L k) (genN (endF (nth L k)))) (genN (endL (nth L k))) else seenK L k
theorem genN_le (l : List UInt8) : genN l ≤ 1099511627776 := by unfold genN; split <;> omega
theorem seenK_le (L : List (List UInt8)) : ∀ k, seenK L k ≤ 1099511627776
  | 0 => Nat.zero_le _
  | k + 1 => by
    have ih := seenK_le L k
    have h1 := genN_le (endF (nth L k))
    have h2 := genN_le (endL (nth L k))
    unfold seenK
    split
    · omega
    · exact ih
theorem max3 {P : Program} (x y z M : Nat) (hM : M = max (max x y) z) (w : World) : (Builtin.max_ #[3, 3, 3] 3 #[.int .i64 (x : Int), .int .i64 (y : Int), .int .i64 (z : Int)]).run P w = .ok (.int .i64 (M : Int)) w := by
  rw [run_max_int3]
  congr 2
  subst hM
  split <;> split <;> omega

set_option maxRecDepth 4000 in
set_option maxHeartbeats 8000000 in
theorem seen_any (A : Option Addr) (n c : Nat) (L : List (List UInt8)) (w : World) (hn : (n : Int) ≤ 9223372036854775807) (h : Rbb w A n L) :
    Calls Try.prog 16 #[.slice A n c] w fun e w' => e = .returned (.int .i64 (seenK L n : Nat)) ∧ Below w.heap.size w w' := by
  have H := hide h
  clear h
  go_enter Try.func16, Try.ntmps16
  go_wp2_with fail
  go_loopw [3, 5, 6, 7, 8, 11] (fun s _ _ _ _ i wr => ∃ k : Nat, k ≤ n ∧ i = .int .i64 k ∧ s = .int .i64 (seenK L k : Nat) ∧ Below w.heap.size w wr) (fun _ _ _ _ _ i _ => n - (intOf i).toNat)
  case atStart => exact ⟨0, Nat.zero_le _, rfl, rfl, Below.refl _ _⟩
  case round =>
    obtain ⟨k, hk, rfl, rfl, hbr⟩ := hrel
    by_cases hlt : k < n
    · obtain ⟨b, o, Ak, nk, ck, rfl, hb, hck, hrk, hnck, _⟩ := H.out.at_ hlt
      have hcr : wr.cell? ⟨b, o + k, none⟩ = some (.slice Ak nk ck) := (hbr.cell (p := ⟨b, o + k, none⟩) hb).trans hck
      obtain ⟨l, hl⟩ : ∃ l, nth L k = l := ⟨_, rfl⟩
      have RK := hide (hrk.below hbr)
      rw [show L.getD k [] = l from hl] at RK
      clear hck hrk
      obtain ⟨x0, x1, x2, x3, x4, x5, x6, x7, hf⟩ := eight_of (endF l) (endF_length l)
      obtain ⟨y0, y1, y2, y3, y4, y5, y6, y7, he⟩ := eight_of (endL l) (endL_length l)
      have hends := hide (ends_eight Ak nk ck l wr hnck RK.out x0 x1 x2 x3 x4 x5 x6 x7 y0 y1 y2 y3 y4 y5 y6 y7 hf he)
      obtain ⟨F, hF⟩ : ∃ F, genN (endF l) = F := ⟨_, rfl⟩
      obtain ⟨E, hE⟩ : ∃ E, genN (endL l) = E := ⟨_, rfl⟩
      have gf := hide (gen_at x0 x1 x2 x3 x4 x5 x6 x7)
      have ge := hide (gen_at y0 y1 y2 y3 y4 y5 y6 y7)
      rw [← hf, hF] at gf
      rw [← he, hE] at ge
      by_cases h256 : l.length = 256
      · rw [decide_eq_true h256] at hends
        have HS := hide (show seenK L (k + 1) = max (max (seenK L k) F) E by rw [seenK, hl, if_pos h256, hF, hE])
        obtain ⟨S, hS⟩ : ∃ S, seenK L k = S := ⟨_, rfl⟩
        rw [hS] at HS ⊢
        have hmax := max3 (P := Try.prog) S F E (max (max S F) E) rfl
        obtain ⟨M, hM⟩ : ∃ M, max (max S F) E = M := ⟨_, rfl⟩
        rw [hM] at hmax HS
        clear hM hS hf he hF hE h256 hl
        go_upto_block 1 with (fail)
        go_cut [3] (fun s wx => s = .int .i64 M ∧ Below w.heap.size w wx)
        case first =>
          go_wp2_with (go_at_call 23; refine hends.out.mono ?_; rintro e w3 ⟨rfl, hb3⟩)
          obtain ⟨W, hW⟩ : ∃ W, W = (w3.alloc (.cells #[.int .u8 (x0.toNat : Int), .int .u8 (x1.toNat : Int), .int .u8 (x2.toNat : Int), .int .u8 (x3.toNat : Int), .int .u8 (x4.toNat : Int), .int .u8 (x5.toNat : Int), .int .u8 (x6.toNat : Int), .int .u8 (x7.toNat : Int)] 51)).alloc (.cells #[.int .u8 (y0.toNat : Int), .int .u8 (y1.toNat : Int), .int .u8 (y2.toNat : Int), .int .u8 (y3.toNat : Int), .int .u8 (y4.toNat : Int), .int .u8 (y5.toNat : Int), .int .u8 (y6.toNat : Int), .int .u8 (y7.toNat : Int)] 51) := ⟨_, rfl⟩
          have V6 : Vk W w3.heap.size 51 (by8 [x0, x1, x2, x3, x4, x5, x6, x7]) := by rw [hW]; exact (Vk.new w3 51 (by8 [x0, x1, x2, x3, x4, x5, x6, x7])).alloc _
          have V7 : Vk W (w3.heap.size + 1) 51 (by8 [y0, y1, y2, y3, y4, y5, y6, y7]) := by rw [hW, ← show (w3.alloc (.cells #[.int .u8 (x0.toNat : Int), .int .u8 (x1.toNat : Int), .int .u8 (x2.toNat : Int), .int .u8 (x3.toNat : Int), .int .u8 (x4.toNat : Int), .int .u8 (x5.toNat : Int), .int .u8 (x6.toNat : Int), .int .u8 (x7.toNat : Int)] 51)).heap.size = w3.heap.size + 1 by simp]; exact Vk.new (w3.alloc (.cells #[.int .u8 (x0.toNat : Int), .int .u8 (x1.toNat : Int), .int .u8 (x2.toNat : Int), .int .u8 (x3.toNat : Int), .int .u8 (x4.toNat : Int), .int .u8 (x5.toNat : Int), .int .u8 (x6.toNat : Int), .int .u8 (x7.toNat : Int)] 51)) 51 (by8 [y0, y1, y2, y3, y4, y5, y6, y7])
          have hbW : Below w.heap.size w W := by rw [hW]; exact Below.al (Below.al (Below.then_ hbr hb3) _) _
          rw [← hW]
          have K := hide (fun z (hz : Below W.heap.size W z) => show z.cell? ⟨w3.heap.size, 0, none⟩ = some (.int .u8 (x0.toNat : Int)) ∧ z.cell? ⟨w3.heap.size, 1, none⟩ = some (.int .u8 (x1.toNat : Int)) ∧ z.cell? ⟨w3.heap.size, 2, none⟩ = some (.int .u8 (x2.toNat : Int)) ∧ z.cell? ⟨w3.heap.size, 3, none⟩ = some (.int .u8 (x3.toNat : Int)) ∧ z.cell? ⟨w3.heap.size, 4, none⟩ = some (.int .u8 (x4.toNat : Int)) ∧ z.cell? ⟨w3.heap.size, 5, none⟩ = some (.int .u8 (x5.toNat : Int)) ∧ z.cell? ⟨w3.heap.size, 6, none⟩ = some (.int .u8 (x6.toNat : Int)) ∧ z.cell? ⟨w3.heap.size, 7, none⟩ = some (.int .u8 (x7.toNat : Int)) ∧ z.cell? ⟨w3.heap.size + 1, 0, none⟩ = some (.int .u8 (y0.toNat : Int)) ∧ z.cell? ⟨w3.heap.size + 1, 1, none⟩ = some (.int .u8 (y1.toNat : Int)) ∧ z.cell? ⟨w3.heap.size + 1, 2, none⟩ = some (.int .u8 (y2.toNat : Int)) ∧ z.cell? ⟨w3.heap.size + 1, 3, none⟩ = some (.int .u8 (y3.toNat : Int)) ∧ z.cell? ⟨w3.heap.size + 1, 4, none⟩ = some (.int .u8 (y4.toNat : Int)) ∧ z.cell? ⟨w3.heap.size + 1, 5, none⟩ = some (.int .u8 (y5.toNat : Int)) ∧ z.cell? ⟨w3.heap.size + 1, 6, none⟩ = some (.int .u8 (y6.toNat : Int)) ∧ z.cell? ⟨w3.heap.size + 1, 7, none⟩ = some (.int .u8 (y7.toNat : Int)) from
            ⟨by rw [(V6.below hz V6.lt).cell]; rfl, by rw [(V6.below hz V6.lt).cell]; rfl, by rw [(V6.below hz V6.lt).cell]; rfl, by rw [(V6.below hz V6.lt).cell]; rfl, by rw [(V6.below hz V6.lt).cell]; rfl, by rw [(V6.below hz V6.lt).cell]; rfl, by rw [(V6.below hz V6.lt).cell]; rfl, by rw [(V6.below hz V6.lt).cell]; rfl, by rw [(V7.below hz V7.lt).cell]; rfl, by rw [(V7.below hz V7.lt).cell]; rfl, by rw [(V7.below hz V7.lt).cell]; rfl, by rw [(V7.below hz V7.lt).cell]; rfl, by rw [(V7.below hz V7.lt).cell]; rfl, by rw [(V7.below hz V7.lt).cell]; rfl, by rw [(V7.below hz V7.lt).cell]; rfl, by rw [(V7.below hz V7.lt).cell]; rfl⟩)
          clear hW V6 V7
          have hb0 := Below.refl W.heap.size W
          have hb00 := hb0.drew
          have HbW := hide hbW
          clear hn hk hbr hlt hcr hbW hnck
          go_region_held3 (fun z => z.cell? ⟨w3.heap.size, 0, none⟩ = some (.int .u8 (x0.toNat : Int)) ∧ z.cell? ⟨w3.heap.size, 1, none⟩ = some (.int .u8 (x1.toNat : Int)) ∧ z.cell? ⟨w3.heap.size, 2, none⟩ = some (.int .u8 (x2.toNat : Int)) ∧ z.cell? ⟨w3.heap.size, 3, none⟩ = some (.int .u8 (x3.toNat : Int)) ∧ z.cell? ⟨w3.heap.size, 4, none⟩ = some (.int .u8 (x4.toNat : Int)) ∧ z.cell? ⟨w3.heap.size, 5, none⟩ = some (.int .u8 (x5.toNat : Int)) ∧ z.cell? ⟨w3.heap.size, 6, none⟩ = some (.int .u8 (x6.toNat : Int)) ∧ z.cell? ⟨w3.heap.size, 7, none⟩ = some (.int .u8 (x7.toNat : Int)) ∧ z.cell? ⟨w3.heap.size + 1, 0, none⟩ = some (.int .u8 (y0.toNat : Int)) ∧ z.cell? ⟨w3.heap.size + 1, 1, none⟩ = some (.int .u8 (y1.toNat : Int)) ∧ z.cell? ⟨w3.heap.size + 1, 2, none⟩ = some (.int .u8 (y2.toNat : Int)) ∧ z.cell? ⟨w3.heap.size + 1, 3, none⟩ = some (.int .u8 (y3.toNat : Int)) ∧ z.cell? ⟨w3.heap.size + 1, 4, none⟩ = some (.int .u8 (y4.toNat : Int)) ∧ z.cell? ⟨w3.heap.size + 1, 5, none⟩ = some (.int .u8 (y5.toNat : Int)) ∧ z.cell? ⟨w3.heap.size + 1, 6, none⟩ = some (.int .u8 (y6.toNat : Int)) ∧ z.cell? ⟨w3.heap.size + 1, 7, none⟩ = some (.int .u8 (y7.toNat : Int)))
            (first | exact K.out _ hbY | exact K.out _ hbX | exact K.out _ hb00 | exact K.out _ hb0)
            (first
              | (go_at_call_of 24 (Value.agg #[Value.int IntKind.u8 (x0.toNat : Int), Value.int IntKind.u8 (x1.toNat : Int), Value.int IntKind.u8 (x2.toNat : Int), Value.int IntKind.u8 (x3.toNat : Int), Value.int IntKind.u8 (x4.toNat : Int), Value.int IntKind.u8 (x5.toNat : Int), Value.int IntKind.u8 (x6.toNat : Int), Value.int IntKind.u8 (x7.toNat : Int)]); refine (gf.out _).mono ?_; rintro e w4 ⟨rfl, hb4⟩; first | (have hbY := Below.then_ hbX hb4) | (have hbX := Below.then_ hb00 hb4))
              | (go_at_call_of 24 (Value.agg #[Value.int IntKind.u8 (y0.toNat : Int), Value.int IntKind.u8 (y1.toNat : Int), Value.int IntKind.u8 (y2.toNat : Int), Value.int IntKind.u8 (y3.toNat : Int), Value.int IntKind.u8 (y4.toNat : Int), Value.int IntKind.u8 (y5.toNat : Int), Value.int IntKind.u8 (y6.toNat : Int), Value.int IntKind.u8 (y7.toNat : Int)]); refine (ge.out _).mono ?_; rintro e w4 ⟨rfl, hb4⟩; first | (have hbY := Below.then_ hbX hb4) | (have hbX := Below.then_ hb00 hb4)))
          all_goals (go_wp2_with fail; go_meet; exact ⟨rfl, Below.then_ HbW.out hbY⟩)
        case rest =>
          obtain ⟨rfl, hbz⟩ := hcut
          go_wp2_with fail
          go_roundw
          case rel => exact ⟨k + 1, by omega, by go_num, by rw [HS.out], hbz⟩
          case measure => simp [intOf]; omega
      · rw [decide_eq_false h256] at hends
        have HS := hide (show seenK L (k + 1) = seenK L k by rw [seenK, hl, if_neg h256])
        clear hf he hF hE h256 hl
        go_wp2_with (go_at_call 23; refine hends.out.mono ?_; rintro e w3 ⟨rfl, hb3⟩)
        go_roundw
        case rel => exact ⟨k + 1, by omega, by go_num, by rw [HS.out], Below.al (Below.al (Below.then_ hbr hb3) _) _⟩
        case measure => simp [intOf]; omega
    · obtain rfl : k = n := by omega
      go_wp2_with fail
      go_ret
      exact ⟨rfl, hbr⟩

end Go.Proofs.Ytelhjficggoliaa
