/- The walks of the two turnings of caches (the program's to the document's, and back), and of the document's Same. -/
import Derived.Test.YtiaahlkhpghnnaaLe
import Derived.Deep.RegionLaw
import Derived.Deep.DeepCutAuto
namespace Go.Proofs.Ytiaahlkhpghnnaa
open Go.RowKit Go.Instr

theorem info58 : (Try.prog.info? 58).map (fun i => (i.zero, i.size, i.bytes)) = some (some (itV it0), 3, 24) := by kernel_rfl
/-- A cache whose items are the call's own, of either type. -/
def CachePostE (el : TypeId) (room : Int) (L : List It) (w : World) (e : Ending) (w' : World) : Prop :=
  ∃ A n c, e = .returned (.agg #[.int .i64 room, .slice A n c]) ∧ w'.ownsRow w.heap.size el 3 (.slice A n c) n (its L) ∧ Below w.heap.size w w'
theorem boxes3 (w : World) (t u v : TypeId) (xs ys zs : List Value) : Vk (((w.alloc (.cells xs.toArray t)).alloc (.cells ys.toArray u)).alloc (.cells zs.toArray v)) w.heap.size t xs ∧ Vk (((w.alloc (.cells xs.toArray t)).alloc (.cells ys.toArray u)).alloc (.cells zs.toArray v)) (w.heap.size + 1) u ys ∧
    Vk (((w.alloc (.cells xs.toArray t)).alloc (.cells ys.toArray u)).alloc (.cells zs.toArray v)) (w.heap.size + 2) v zs := by
  obtain ⟨h1, h2⟩ := boxes2 w t u xs ys
  refine ⟨h1.alloc _, h2.alloc _, ?_⟩
  have := Vk.new ((w.alloc (.cells xs.toArray t)).alloc (.cells ys.toArray u)) v zs
  simpa using this
theorem take_succ_it (L : List It) (k : Nat) (h : k < L.length) : L.take (k + 1) = L.take k ++ [nthI L k] := by
  rw [List.take_add_one, List.getElem?_eq_getElem h]
  simp [nthI, List.getD, h]
set_option maxHeartbeats 4000000 in
theorem own_turn (room : Int) (A : Option Addr) (n c : Nat) (L : List It) (w : World) (hn : n ≤ 1000) (h : Rit w A n L) : Calls Try.prog 12 #[.agg #[.int .i64 room, .slice A n c]] w (CachePostE 47 room L w) := by
  have H := hide h
  have HL := hide h.len
  obtain ⟨V1, V2, V3⟩ := boxes3 w 24 28 28 [.int .i64 room, .slice A n c] [.int .i64 0, .slice none 0 0] [.int .i64 room, .slice none 0 0]
  have B1 := hide V1
  have B2 := hide V2
  have B3 := hide V3
  have HB0 := hide (Below.al (Below.al (Below.al (Below.refl w.heap.size w) (.cells #[.int .i64 room, .slice A n c] 24)) (.cells #[.int .i64 0, .slice none 0 0] 28)) (.cells #[.int .i64 room, .slice none 0 0] 28))
  clear h V1 V2 V3
  go_enter Try.func12, Try.ntmps12
  go_wp2_with fail
  go_loopw [4] (fun i wr => ∃ (k : Nat) (B : Option Addr) (d : Nat), k ≤ n ∧ i = .int .i64 k ∧ Vk wr w.heap.size 24 [.int .i64 room, .slice A n c] ∧ Vk wr (w.heap.size + 1) 28 [.int .i64 0, .slice none 0 0] ∧ Vk wr (w.heap.size + 2) 28 [.int .i64 room, .slice B k d] ∧
    wr.ownsRow (w.heap.size + 3) 47 3 (.slice B k d) k (its (L.take k)) ∧ Below w.heap.size w wr) (fun i _ => n - (intOf i).toNat)
  case atStart => exact ⟨0, none, 0, Nat.zero_le _, rfl, B1.out, B2.out, B3.out, World.ownsRow_nil _ _ _ _, HB0.out⟩
  case round =>
    obtain ⟨k, B, d, hk, rfl, hb1, hb2, hb3, hown, hbr⟩ := hrel
    have X1 := hide hb1
    have X2 := hide hb2
    have X3 := hide hb3
    have OW := hide hown
    have HB := hide hbr
    obtain ⟨c10, c11, f10, f11⟩ := hb1.two
    obtain ⟨c20, c21, f20, f21⟩ := hb2.two
    obtain ⟨c30, c31, f30, f31⟩ := hb3.two
    have h3 := hb3.lt
    clear hb1 hb2 hb3 hown
    by_cases hlt : k < n
    · obtain ⟨b, o, rfl, hb, g0, g1, g2⟩ := (H.out.below hbr).at_ hlt
      obtain ⟨T, hT⟩ : ∃ T, nthI L k = T := ⟨_, rfl⟩
      rw [hT] at g0 g1 g2
      have HT := hide (show L.take (k + 1) = L.take k ++ [T] by rw [← hT]; exact take_succ_it L k (by rw [HL.out]; exact hlt))
      have hkn : (k : Int) < (n : Int) := by omega
      have hk0 : (0 : Int) ≤ (k : Int) := by omega
      have a10 := fun o => al_cell (w := wr.drew) c10 o
      have a11 := fun o => al_cell (w := wr.drew) c11 o
      have a30 := fun o => al_cell (w := wr.drew) c30 o
      have a31 := fun o => al_cell (w := wr.drew) c31 o
      have b0 := fun o => al_cell (w := wr.drew) g0 o
      have b1 := fun o => al_cell (w := wr.drew) g1 o
      have b2 := fun o => al_cell (w := wr.drew) g2 o
      have NW := hide (Vk.new wr.drew 58 [.int .i64 T.id, .int .i64 T.pins, .bool T.dirty])
      have NW2 := hide (Vk.new wr.drew 47 [.int .i64 T.id, .int .i64 T.pins, .bool T.dirty])
      clear hbr hb hT
      go_upto_region 5 with (fail)
      go_region_law (
        refine step_app rfl (.tmp 16) (.tmp 22) 26 rfl (w.heap.size + 3) 47 (itV it0) 3 24 Try.underlying26 info47 rfl (by omega) B d k (its (L.take k)) rfl ?_ (some ⟨wr.heap.size, 0, none⟩) 1 1 (its [T]) rfl ?_ (its_one _) ?_ ?_ ?_ ?_
        · exact OW.out.drew.alloc _
        · exact NW2.out.rd 3 1 rfl
        · unfold maxLen; omega
        · omega
        · simp; omega
        intro B' d' w' hown hgr hz
        have ne : ∀ g, g < w.heap.size + 3 → some g ≠ (Value.slice B k d).ownBlock := fun g hg e => by
          have := (own_lt OW.out g e.symm).1
          omega
        have Y1 := hide ((X1.out.drew.alloc _).grown hgr (ne _ (by omega)))
        have Y2 := hide ((X2.out.drew.alloc _).grown hgr (ne _ (by omega)))
        have Y3 := hide ((X3.out.drew.alloc _).grown hgr (ne _ (by omega)))
        obtain ⟨e30, e31, q30, q31⟩ := Y3.out.two
        have HY := hide ((Below.al HB.out.drew _).grown hgr (Below.al HB.out.drew _).size (fun j hj => by have := (own_lt OW.out j hj).1; omega))
        rw [← its_app, ← HT.out] at hown
        have OY := hide hown
        clear hown hgr hz ne)
      all_goals (
        go_wp2_with fail
        go_roundw
        case rel =>
          refine ⟨k + 1, B', d', by omega, by go_num, Y1.out.far (by simp; omega) _, Y2.out.far (by simp) _, ?_, own_far OY.out (by simp) (Nat.le_refl _) _, HY.out.setCell (by simp; omega) _⟩
          have := Y3.out.set_ 1 (.slice B' (k + 1) d')
          simpa using this
        case measure => simp [intOf]; omega)
    · obtain rfl : k = n := by omega
      have hl : L.take k = L := List.take_of_length_le (Nat.le_of_eq HL.out)
      rw [hl] at OW
      clear hl
      go_wp2_with fail
      have Z := (X2.out.set_ 0 (.int .i64 room)).set_ 1 (.slice B k d)
      simp only [List.set_cons_zero, List.set_cons_succ] at Z
      obtain ⟨d0, d1, _⟩ := Z.two
      refine bodyPost_ret (v := .agg #[.int .i64 room, .slice B k d]) (by simp [results, Try.results12, go_sem, d0, d1]) rfl ⟨B, k, d, rfl, ?_, ?_⟩
      · exact own_far (own_far OW.out (by simp) (Nat.le_refl _) _) (by simp) (by omega) _
      · exact (HB.out.setCell (by simp) _).setCell (by simp) _
set_option maxHeartbeats 4000000 in
theorem back_turn (room : Int) (A : Option Addr) (n c : Nat) (L : List It) (w : World) (hn : n ≤ 1000) (h : Rit w A n L) : Calls Try.prog 10 #[.agg #[.int .i64 room, .slice A n c]] w (CachePostE 58 room L w) := by
  have H := hide h
  have HL := hide h.len
  obtain ⟨V1, V2, V3⟩ := boxes3 w 28 24 24 [.int .i64 room, .slice A n c] [.int .i64 0, .slice none 0 0] [.int .i64 room, .slice none 0 0]
  have B1 := hide V1
  have B2 := hide V2
  have B3 := hide V3
  have HB0 := hide (Below.al (Below.al (Below.al (Below.refl w.heap.size w) (.cells #[.int .i64 room, .slice A n c] 28)) (.cells #[.int .i64 0, .slice none 0 0] 24)) (.cells #[.int .i64 room, .slice none 0 0] 24))
  clear h V1 V2 V3
  go_enter Try.func10, Try.ntmps10
  go_wp2_with fail
  go_loopw [4] (fun i wr => ∃ (k : Nat) (B : Option Addr) (d : Nat), k ≤ n ∧ i = .int .i64 k ∧ Vk wr w.heap.size 28 [.int .i64 room, .slice A n c] ∧ Vk wr (w.heap.size + 1) 24 [.int .i64 0, .slice none 0 0] ∧ Vk wr (w.heap.size + 2) 24 [.int .i64 room, .slice B k d] ∧
    wr.ownsRow (w.heap.size + 3) 58 3 (.slice B k d) k (its (L.take k)) ∧ Below w.heap.size w wr) (fun i _ => n - (intOf i).toNat)
  case atStart => exact ⟨0, none, 0, Nat.zero_le _, rfl, B1.out, B2.out, B3.out, World.ownsRow_nil _ _ _ _, HB0.out⟩
  case round =>
    obtain ⟨k, B, d, hk, rfl, hb1, hb2, hb3, hown, hbr⟩ := hrel
    have X1 := hide hb1
    have X2 := hide hb2
    have X3 := hide hb3
    have OW := hide hown
    have HB := hide hbr
    obtain ⟨c10, c11, f10, f11⟩ := hb1.two
    obtain ⟨c20, c21, f20, f21⟩ := hb2.two
    obtain ⟨c30, c31, f30, f31⟩ := hb3.two
    have h3 := hb3.lt
    clear hb1 hb2 hb3 hown
    by_cases hlt : k < n
    · obtain ⟨b, o, rfl, hb, g0, g1, g2⟩ := (H.out.below hbr).at_ hlt
      obtain ⟨T, hT⟩ : ∃ T, nthI L k = T := ⟨_, rfl⟩
      rw [hT] at g0 g1 g2
      have HT := hide (show L.take (k + 1) = L.take k ++ [T] by rw [← hT]; exact take_succ_it L k (by rw [HL.out]; exact hlt))
      have hkn : (k : Int) < (n : Int) := by omega
      have hk0 : (0 : Int) ≤ (k : Int) := by omega
      have a10 := fun o => al_cell (w := wr.drew) c10 o
      have a11 := fun o => al_cell (w := wr.drew) c11 o
      have a30 := fun o => al_cell (w := wr.drew) c30 o
      have a31 := fun o => al_cell (w := wr.drew) c31 o
      have b0 := fun o => al_cell (w := wr.drew) g0 o
      have b1 := fun o => al_cell (w := wr.drew) g1 o
      have b2 := fun o => al_cell (w := wr.drew) g2 o
      have NW := hide (Vk.new wr.drew 47 [.int .i64 T.id, .int .i64 T.pins, .bool T.dirty])
      have NW2 := hide (Vk.new wr.drew 58 [.int .i64 T.id, .int .i64 T.pins, .bool T.dirty])
      clear hbr hb hT
      go_upto_region 5 with (fail)
      go_region_law (
        refine step_app rfl (.tmp 16) (.tmp 22) 22 rfl (w.heap.size + 3) 58 (itV it0) 3 24 Try.underlying22 info58 rfl (by omega) B d k (its (L.take k)) rfl ?_ (some ⟨wr.heap.size, 0, none⟩) 1 1 (its [T]) rfl ?_ (its_one _) ?_ ?_ ?_ ?_
        · exact OW.out.drew.alloc _
        · exact NW2.out.rd 3 1 rfl
        · unfold maxLen; omega
        · omega
        · simp; omega
        intro B' d' w' hown hgr hz
        have ne : ∀ g, g < w.heap.size + 3 → some g ≠ (Value.slice B k d).ownBlock := fun g hg e => by
          have := (own_lt OW.out g e.symm).1
          omega
        have Y1 := hide ((X1.out.drew.alloc _).grown hgr (ne _ (by omega)))
        have Y2 := hide ((X2.out.drew.alloc _).grown hgr (ne _ (by omega)))
        have Y3 := hide ((X3.out.drew.alloc _).grown hgr (ne _ (by omega)))
        obtain ⟨e30, e31, q30, q31⟩ := Y3.out.two
        have HY := hide ((Below.al HB.out.drew _).grown hgr (Below.al HB.out.drew _).size (fun j hj => by have := (own_lt OW.out j hj).1; omega))
        rw [← its_app, ← HT.out] at hown
        have OY := hide hown
        clear hown hgr hz ne)
      all_goals (
        go_wp2_with fail
        go_roundw
        case rel =>
          refine ⟨k + 1, B', d', by omega, by go_num, Y1.out.far (by simp; omega) _, Y2.out.far (by simp) _, ?_, own_far OY.out (by simp) (Nat.le_refl _) _, HY.out.setCell (by simp; omega) _⟩
          have := Y3.out.set_ 1 (.slice B' (k + 1) d')
          simpa using this
        case measure => simp [intOf]; omega)
    · obtain rfl : k = n := by omega
      have hl : L.take k = L := List.take_of_length_le (Nat.le_of_eq HL.out)
      rw [hl] at OW
      clear hl
      go_wp2_with fail
      have Z := (X2.out.set_ 0 (.int .i64 room)).set_ 1 (.slice B k d)
      simp only [List.set_cons_zero, List.set_cons_succ] at Z
      obtain ⟨d0, d1, _⟩ := Z.two
      refine bodyPost_ret (v := .agg #[.int .i64 room, .slice B k d]) (by simp [results, Try.results10, go_sem, d0, d1]) rfl ⟨B, k, d, rfl, ?_, ?_⟩
      · exact own_far (own_far OW.out (by simp) (Nat.le_refl _) _) (by simp) (by omega) _
      · exact (HB.out.setCell (by simp) _).setCell (by simp) _
set_option maxHeartbeats 4000000 in
theorem rsame_any (r s : Int) (A : Option Addr) (n c : Nat) (L : List It) (B : Option Addr) (m d : Nat) (M : List It) (w : World) (hn : (n : Int) ≤ 9223372036854775807) (h : Rit w A n L) (h' : Rit w B m M) :
    Calls Try.prog 9 #[.agg #[.int .i64 r, .slice A n c], .agg #[.int .i64 s, .slice B m d]] w fun e w' => e = .returned (.bool (sameC r s L M)) ∧ Below w.heap.size w w' := by
  have H := hide h
  have H' := hide h'
  have HL := hide h.len
  have HM := hide h'.len
  by_cases hrs : r = s
  · subst hrs
    by_cases hnm : n = m
    · subst hnm
      have e : sameC r r L M = decide (L = M) := by simp [sameC]
      obtain ⟨R, hR⟩ : ∃ R, decide (L = M) = R := ⟨_, rfl⟩
      rw [e, hR]
      have HR := hide hR
      obtain ⟨V1, V2⟩ := boxes2 w 24 24 [.int .i64 r, .slice A n c] [.int .i64 r, .slice B n d]
      have B1 := hide V1
      have B2 := hide V2
      have HB0 := hide (Below.al (Below.al (Below.refl w.heap.size w) (.cells #[.int .i64 r, .slice A n c] 24)) (.cells #[.int .i64 r, .slice B n d] 24))
      clear h h' e hR V1 V2
      go_enter Try.func9, Try.ntmps9
      go_wp2_with fail
      go_loopw [5] (fun i wr => ∃ k : Nat, k ≤ n ∧ i = .int .i64 k ∧ (∀ j, j < k → nthI L j = nthI M j) ∧ Vk wr w.heap.size 24 [.int .i64 r, .slice A n c] ∧ Vk wr (w.heap.size + 1) 24 [.int .i64 r, .slice B n d] ∧ Below w.heap.size w wr) (fun i _ => n - (intOf i).toNat)
      case atStart => exact ⟨0, Nat.zero_le _, rfl, fun j hj => absurd hj (by omega), B1.out, B2.out, HB0.out⟩
      case round =>
        obtain ⟨k, hk, rfl, hsame, hb1, hb2, hbr⟩ := hrel
        have HB := hide hbr
        have HS := hide hsame
        have X1 := hide hb1
        have X2 := hide hb2
        obtain ⟨c10, c11, _, _⟩ := hb1.two
        obtain ⟨c20, c21, _, _⟩ := hb2.two
        clear hsame hb1 hb2
        by_cases hlt : k < n
        · obtain ⟨b, o, rfl, _, h0, h1, h2⟩ := (H.out.below hbr).at_ hlt
          obtain ⟨b', o', rfl, _, g0, g1, g2⟩ := (H'.out.below hbr).at_ hlt
          have hkn : (k : Int) < (n : Int) := by omega
          have ne := fun w => ne_it 58 (.inr rfl) (nthI L k) (nthI M k) w
          unfold itV at ne
          obtain ⟨q, hq⟩ : ∃ q, (!(decide (nthI L k = nthI M k))) = q := ⟨_, rfl⟩
          have HQ := hide hq
          rw [hq] at ne
          clear hq hbr
          go_wp2_with fail
          go_quiet (fail)
          all_goals cases q
          · go_wp2_with fail
            go_roundw
            case rel =>
              refine ⟨k + 1, by omega, by go_num, fun j hj => ?_, X1.out.drewN _, X2.out.drewN _, Below.drewN' HB.out _⟩
              rcases Nat.lt_or_ge j k with h1 | h1
              · exact HS.out j h1
              · obtain rfl : j = k := by omega
                have := HQ.out
                simpa using this
            case measure => simp [intOf]; omega
          · go_wp2_with fail
            go_ret
            refine ⟨?_, Below.drewN' HB.out _⟩
            rw [← HR.out, decide_eq_false (fun e => by have := HQ.out; simp [e] at this)]
            rfl
        · obtain rfl : k = n := by omega
          go_wp2_with fail
          go_ret
          refine ⟨?_, HB.out⟩
          rw [← HR.out, decide_eq_true (its_ext (by rw [HL.out, HM.out]) (fun j hj => HS.out j (by rw [← HL.out]; exact hj)))]
          rfl
    · have dn : ((n : Int) != (m : Int)) = true := by rw [bne_iff_ne]; omega
      have e : sameC r r L M = false := by
        unfold sameC
        exact decide_eq_false (fun e => hnm (by rw [← h.len, ← h'.len, e.2]))
      rw [e]
      clear h h' e hnm
      go_enter Try.func9, Try.ntmps9
      go_wp2_with fail
      go_ret
      exact ⟨rfl, Below.al (Below.al (Below.refl _ _) _) _⟩
  · have e : sameC r s L M = false := by simp [sameC, hrs]
    rw [e]
    have dr : (r != s) = true := by simp [hrs]
    clear e hrs h h'
    go_enter Try.func9, Try.ntmps9
    go_wp2_with fail
    go_ret
    exact ⟨rfl, Below.al (Below.al (Below.refl _ _) _) _⟩
end Go.Proofs.Ytiaahlkhpghnnaa
