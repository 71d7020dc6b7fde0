/- The walk of the document's Turn. -/
import Derived.Test.YtcmlegpfapomnaaDk
import Derived.Deep.RegionHeld3
namespace Go.Proofs.Ytcmlegpfapomnaa
open Go.RowKit Go.Instr
set_option maxHeartbeats 4000000 in
theorem rturn_any (A : Option Addr) (n c : Nat) (L : List Ch) (w : World) (hn : n ≤ 1000) (h : Rch w A n L) : Calls Try.prog 25 #[.slice A n c] w fun e w' => ∃ v, e = .returned v ∧ SC w' v ((L).map turn1) ∧ Below w.heap.size w w' := by
  have H := hide h
  have HL := hide h.len
  clear h
  go_enter Try.func25, Try.ntmps25
  go_wp2_with fail
  go_loopw [3, 4] (fun s i wr => (∃ (k : Nat) (B : Option Addr) (d : Nat), k ≤ n ∧ i = .int .i64 k ∧ s = .slice B k d ∧ wr.ownsRow w.heap.size 71 5 (.slice B k d) k (chs ((L.take k).map turn1)) ∧ Below w.heap.size w wr)) (fun s i _ => n - (intOf i).toNat)
  case atStart => exact ⟨0, none, 0, Nat.zero_le _, rfl, rfl, World.ownsRow_nil _ _ _ _, Below.refl _ _⟩
  case round =>
    obtain ⟨k, B, d, hk, rfl, rfl, hown, hbr⟩ := hrel
    have OW := hide hown
    have HB := hide hbr
    have hsz := hbr.size
    clear hown
    by_cases hlt : k < n
    · obtain ⟨b, o, rfl, hb, g0, g1, g2, g3, g4⟩ := (H.out.below hbr).at_ hlt
      obtain ⟨T, hT⟩ : ∃ T, nthC L k = T := ⟨_, rfl⟩
      rw [hT] at g0 g1 g2 g3 g4
      have HTE := hide (show (L.take k).map turn1 ++ [turn1 T] = (L.take (k + 1)).map turn1 by rw [take_succ_c L k (by rw [HL.out]; exact hlt), hT]; rw [List.map_append]; rfl)
      have hkn : (k : Int) < (n : Int) := by omega
      have hk0 : (0 : Int) ≤ (k : Int) := by omega

      have NW := hide (Vk.new wr.drew 71 [.string ⟨T.k.toArray⟩, .string ⟨T.now.toArray⟩, .string ⟨T.was.toArray⟩, .bool T.has, .bool T.had])
      have HTT := hide hT
      clear hbr hb hT
      obtain ⟨b_, o_, e_, hbw, c0, c1, c2, c3, c4⟩ := H.out.at_ hlt
      cases e_
      rw [HTT.out] at c0 c1 c2 c3 c4
      have BL := hide hbw
      clear hbw
      have b0 := fun ob => al_cell (w := wr.drew) g0 ob
      have b1 := fun ob => al_cell (w := wr.drew) g1 ob
      have b2 := fun ob => al_cell (w := wr.drew) g2 ob
      have b3 := fun ob => al_cell (w := wr.drew) g3 ob
      have b4 := fun ob => al_cell (w := wr.drew) g4 ob
      go_wp2_with fail
      go_region_held3 (fun z => z.cell? ⟨b, o + k * 5, none⟩ = some (.string ⟨T.k.toArray⟩) ∧ z.cell? ⟨b, o + k * 5 + 1, none⟩ = some (.string ⟨T.was.toArray⟩) ∧ z.cell? ⟨b, o + k * 5 + 2, none⟩ = some (.string ⟨T.now.toArray⟩) ∧ z.cell? ⟨b, o + k * 5 + 3, none⟩ = some (.bool T.had) ∧ z.cell? ⟨b, o + k * 5 + 4, none⟩ = some (.bool T.has))
        (first | go_keep | exact ⟨g0, g1, g2, g3, g4⟩ | exact ⟨b0 _, b1 _, b2 _, b3 _, b4 _⟩ | exact ⟨(HY.out.cell (p := ⟨b, o + k * 5, none⟩) BL.out).trans c0, (HY.out.cell (p := ⟨b, o + k * 5 + 1, none⟩) BL.out).trans c1, (HY.out.cell (p := ⟨b, o + k * 5 + 2, none⟩) BL.out).trans c2, (HY.out.cell (p := ⟨b, o + k * 5 + 3, none⟩) BL.out).trans c3, (HY.out.cell (p := ⟨b, o + k * 5 + 4, none⟩) BL.out).trans c4⟩)
        (first
         | (refine step_app rfl (.tmp 11) (.tmp 38) 38 rfl w.heap.size 71 (chV ch0) 5 56 Try.underlying38 info71 rfl (by omega) B d k (chs ((L.take k).map turn1)) rfl ?_ (some ⟨wr.heap.size, 0, none⟩) 1 1 (chs [turn1 T]) rfl ?_ (chs_one _) ?_ ?_ ?_ ?_
            · exact OW.out.drew.alloc _
            · exact NW.out.rd 5 1 rfl
            · unfold maxLen; omega
            · omega
            · simp; omega
            intro B' d' w' hown hgr hz
            have HY := hide ((Below.al HB.out.drew _).grown hgr (Below.al HB.out.drew _).size (fun j hj => by have := (own_lt OW.out j hj).1; omega))
            rw [← chs_app, HTE.out] at hown
            have OY := hide hown
            clear hown hgr hz))
      all_goals (
        go_wp2_with fail
        go_roundw
        case rel => exact ⟨k + 1, B', d', by omega, by go_num, rfl, OY.out, HY.out⟩
        case measure => simp [intOf]; omega)
    · obtain rfl : k = n := by omega
      have hl : L.take k = L := List.take_of_length_le (Nat.le_of_eq HL.out)
      rw [hl] at OW
      clear hl
      go_wp2_with fail
      go_ret
      exact ⟨_, rfl, ⟨B, k, d, rfl, (own_capN OW.out).1, Rch.of_own OW.out⟩, HB.out⟩
end Go.Proofs.Ytcmlegpfapomnaa
