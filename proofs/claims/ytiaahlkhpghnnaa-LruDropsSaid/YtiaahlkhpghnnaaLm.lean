/- The walk of the law LruDrops. -/
import Derived.Test.YtiaahlkhpghnnaaLk
import Derived.Test.YtiaahlkhpghnnaaDrops
namespace Go.Proofs.Ytiaahlkhpghnnaa
open Go.RowKit Go.Instr

set_option maxRecDepth 20000 in
set_option maxHeartbeats 16000000 in
theorem drops_in (rm : Int) (A : Option Addr) (n c : Nat) (L : List It) (w : World) (hn : n ≤ 40) (h : Rit w A n L) (hck : checkC rm L = 0) :
    Calls Try.prog 5 #[.agg #[.int .i64 rm, .slice A n c]] w fun e w' => e = .returned (.bool true) ∧ Below w.heap.size w w' := by
  have H := hide h
  have hL := h.len
  have hnd : (ids L).Nodup ∧ i64 rm := by
    unfold checkC at hck
    split at hck
    · omega
    · rename_i h1
      split at hck
      · omega
      · split at hck
        · omega
        · split at hck
          · rename_i h2
            exact ⟨h2, by unfold i64; omega⟩
          · omega
  obtain ⟨hnd, hrm⟩ := hnd
  have RC := hide (rcheck_any rm A n c L (w.alloc (.cells #[.int .i64 rm, .slice A n c] 24)) (by omega) (h.below (Below.al (Below.refl _ _) _)))
  rw [hck] at RC
  have d0 : decide (40 < (n : Int)) = false := by simp; omega
  have B1 := hide (Vk.new w 24 [.int .i64 rm, .slice A n c])
  have HB0 := hide (Below.al (Below.refl w.heap.size w) (.cells #[.int .i64 rm, .slice A n c] 24))
  have ND := hide hnd
  have RM := hide hrm
  have HL := hide hL
  clear h hck hnd hrm hL
  go_enter Try.func5, Try.ntmps5
  go_wp2_with (first
    | (
       go_at_call 13
       refine RC.out.mono ?_
       rintro r w1 ⟨rfl, hb1⟩
       have B1' := hide (B1.out.below hb1 B1.out.lt)
       obtain ⟨x0, x1, _, _⟩ := B1'.out.two
       have HB1 := hide (Below.then_ HB0.out hb1)
       clear hb1)
    | (
       go_at_call 12
       refine (own_turn rm A n c L w1 (by omega) (H.out.below HB1.out)).mono ?_
       rintro r w2 ⟨A2, n2, c2, rfl, hown, hb2⟩
       obtain rfl : n = n2 := by rw [← (Rit.of_own hown).len, HL.out]
       have R2 := hide (Rit.al (Rit.of_own hown) (.cells #[.int .i64 rm, .slice A2 n c2] 28))
       have B1'' := hide ((B1'.out.below hb2 B1'.out.lt).alloc (.cells #[.int .i64 rm, .slice A2 n c2] 28))
       have B2 := hide (Vk.new w2 28 [.int .i64 rm, .slice A2 n c2])
       have HB2 := hide (Below.al (Below.then_ HB1.out hb2) (.cells #[.int .i64 rm, .slice A2 n c2] 28))
       have hs2 := hide (show w.heap.size + 1 ≤ w2.heap.size by
         have h1 := HB1.out.size
         have h3 := B1'.out.lt
         have h2 := hb2.size
         omega)
       clear hown hb2))
  go_loopw [4, 5, 6, 7, 8, 9, 10] (fun at_ i _ _ _ _ _ wr => ∃ (k m d : Nat) (ap : Int) (B : Option Addr) (X : List It), at_ = .int .i64 ap ∧ i = .int .i64 k ∧ k + m = n ∧ Vk wr w.heap.size 24 [.int .i64 rm, .slice A n c] ∧ Vk wr w2.heap.size 28 [.int .i64 rm, .slice B m d] ∧ Rit wr B m X ∧ asIn L X ∧ (∀ t ∈ X, t.pins = 0 → ap < place L t.id) ∧ Below w.heap.size w wr) (fun _ i _ _ _ _ _ _ => 41 - (intOf i).toNat)
  case atStart =>
    refine ⟨0, n, c2, -1, A2, L, rfl, rfl, by omega, B1''.out, B2.out, R2.out, asIn_self ND.out, fun t ht _ => ?_, HB2.out⟩
    obtain ⟨i, hi, rfl⟩ := List.getElem_of_mem ht
    have e : L[i] = nthI L i := by simp [nthI, List.getD, hi]
    rw [e, place_self.2 ND.out i hi]
    omega
  case round =>
    obtain ⟨k, m, d, ap, B, X, rfl, rfl, hkm, hv1, hv2, hr, has, hat, hbr⟩ := hrel
    have C1 := hide hv1
    have C2 := hide hv2
    have RX := hide hr
    have AS := hide has
    have AT := hide hat
    have HB := hide hbr
    have hXl := hr.len
    have HXL := hide hXl
    obtain ⟨y0, y1, _, _⟩ := hv2.two
    have VC := hide (victim_any rm B m d X wr (by omega) RM.out hr)
    have dk : decide ((k : Int) ≤ 40) = true := by simp; omega
    clear hv1 hv2 hr has hat hbr
    by_cases hv : idxV (fun t => t.pins == 0) X < 0 ∨ overI rm m = 0
    · have hvn : vict rm X = none := by unfold vict; rw [hXl, if_pos hv]
      rw [hvn] at VC
      have HV := hide hv
      have e0 : victV none = .tuple #[.agg #[.int .i64 0, .int .i64 0, .bool false], .bool false] := rfl
      rw [e0] at VC
      clear hv hvn hXl e0
      go_wp2_with (
        go_at_call 16
        refine VC.out.mono ?_
        rintro r w3 ⟨rfl, hb3⟩
        have D2 := hide ((C2.out.below hb3 C2.out.lt).alloc (.cells #[.int .i64 0, .int .i64 0, .bool false] 47))
        have R3 := hide (Rit.al (RX.out.below hb3) (.cells #[.int .i64 0, .int .i64 0, .bool false] 47))
        have HB3 := hide (Below.al (Below.then_ HB.out hb3) (.cells #[.int .i64 0, .int .i64 0, .bool false] 47))
        obtain ⟨z0, z1, _, _⟩ := D2.out.two
        clear hb3)
      go_loopw [11, 12] (fun f i wy => ∃ j : Nat, j ≤ m ∧ i = .int .i64 j ∧ f = .int .i64 (freeK X j : Nat) ∧ wy = w3.alloc (.cells #[.int .i64 0, .int .i64 0, .bool false] 47)) (fun _ i _ => m - (intOf i).toNat)
      case atStart => exact ⟨0, Nat.zero_le _, rfl, rfl, rfl⟩
      case round =>
        obtain ⟨j, hj, rfl, rfl, rfl⟩ := hrel
        by_cases hlt : j < m
        · obtain ⟨b, o, rfl, _, g0, g1, g2⟩ := R3.out.at_ hlt
          have hjm : (j : Int) < (m : Int) := by omega
          have hj0 : (0 : Int) ≤ (j : Int) := by omega
          have hfk := freeK_succ X j (by rw [HXL.out]; exact hlt)
          obtain ⟨F, hF⟩ : ∃ F, freeK X j = F := ⟨_, rfl⟩
          have hFj : F ≤ j := by
            rw [← hF]
            unfold freeK
            exact Nat.le_trans (List.length_filter_le _ _) (by rw [List.length_take]; omega)
          rw [hF] at hfk ⊢
          have HFK := hide hfk
          clear hfk hF
          by_cases hp : (nthI X j).pins = 0
          · have dp : ((nthI X j).pins == 0) = true := by simp [hp]
            have HP := hide hp
            clear hp
            go_wp2_with fail
            go_roundw
            case rel => exact ⟨j + 1, by omega, by go_num, by rw [HFK.out, if_pos HP.out]; go_num, by trivial⟩
            case measure => simp [intOf]; omega
          · have dp : ((nthI X j).pins == 0) = false := by simp [hp]
            have HP := hide hp
            clear hp
            go_wp2_with fail
            go_roundw
            case rel => exact ⟨j + 1, by omega, by go_num, by rw [HFK.out, if_neg HP.out]; rfl, by trivial⟩
            case measure => simp [intOf]; omega
        · obtain rfl : j = m := by omega
          obtain ⟨F, hF⟩ : ∃ F, freeK X j = F := ⟨_, rfl⟩
          have OV := hide (over_any rm B j d (w3.alloc (.cells #[.int .i64 0, .int .i64 0, .bool false] 47)) (by omega) RM.out)
          obtain ⟨O, hO⟩ : ∃ O, overI rm j = O := ⟨_, rfl⟩
          rw [hO] at OV
          have hcase : O = 0 ∨ ((O == 0) = false ∧ F = 0) := by
            by_cases h0 : O = 0
            · exact .inl h0
            · refine .inr ⟨by simp [h0], ?_⟩
              rw [← hF]
              exact freeK_none (HV.out.resolve_right (by rw [hO]; exact h0)) j
          rw [hF]
          clear hF hO
          rcases hcase with rfl | ⟨d0, rfl⟩
          all_goals
            go_wp2_with (first
              | (
                 go_at_call 19
                 refine OV.out.mono ?_
                 rintro r w4 ⟨rfl, hb4⟩
                 have HB4 := hide (Below.then_ HB3.out hb4)
                 clear hb4)
              | (
                 go_at_call 6
                 refine (awake_any _).mono ?_
                 rintro r w9 ⟨rfl, hb9⟩))
            go_ret
            exact ⟨rfl, Below.then_ HB4.out hb9⟩
    · have hvs : vict rm X = some (nthI X (idxV (fun t => t.pins == 0) X).toNat) := by unfold vict; rw [hXl, if_neg hv]
      obtain ⟨j, hj⟩ := Int.eq_ofNat_of_zero_le (show 0 ≤ idxV (fun t => t.pins == 0) X by omega)
      rw [hj, Int.toNat_natCast] at hvs
      obtain ⟨q1, q2, q3, q4, q5, q6, q7⟩ := drops_step AS.out hj AT.out
      obtain ⟨T, hT⟩ : ∃ T, nthI X j = T := ⟨_, rfl⟩
      rw [hT] at hvs q2 q3 q4 q6
      obtain ⟨K, hK⟩ : ∃ K, place L T.id = K := ⟨_, rfl⟩
      rw [hK] at q4 q6
      obtain ⟨mm, rfl⟩ : ∃ mm, m = mm + 1 := ⟨m - 1, by omega⟩
      have e0 : victV (vict rm X) = .tuple #[.agg #[.int .i64 T.id, .int .i64 0, .bool T.dirty], .bool true] := by rw [hvs, ← q2]; rfl
      rw [e0] at VC
      have PL := hide (fun w h => rplace_any rm A n c L T.id w (by omega) h)
      rw [hK] at PL
      have DR := hide (fun w h => Drop_any rm B (mm + 1) d X T.id w (by omega) h)
      rw [q3] at DR
      unfold ChangePost at DR
      obtain ⟨Y, hY⟩ : ∃ Y, X.eraseIdx j = Y := ⟨_, rfl⟩
      rw [hY] at DR q5 q6 q7
      have HY := hide q7
      have H5 := hide q5
      have H6 := hide q6
      have dK : decide (K ≤ ap) = false := by simp; omega
      have hw : IntKind.i64.wrap ((mm : Int) + 1 - 1) = (mm : Int) := by rw [IntKind.wrap_i64]; omega
      clear hv hvs hj q1 q2 q3 q4 q5 q6 q7 hT hK hXl e0 hY
      go_wp2_with (first
        | (
           go_at_call 16
           refine VC.out.mono ?_
           rintro r w3 ⟨rfl, hb3⟩
           have D1 := hide ((C1.out.below hb3 C1.out.lt).alloc (.cells #[.int .i64 T.id, .int .i64 0, .bool T.dirty] 47))
           have D2 := hide ((C2.out.below hb3 C2.out.lt).alloc (.cells #[.int .i64 T.id, .int .i64 0, .bool T.dirty] 47))
           have D3 := hide (Vk.new w3 47 [.int .i64 T.id, .int .i64 0, .bool T.dirty])
           have R3 := hide (Rit.al (RX.out.below hb3) (.cells #[.int .i64 T.id, .int .i64 0, .bool T.dirty] 47))
           have HB3 := hide (Below.al (Below.then_ HB.out hb3) (.cells #[.int .i64 T.id, .int .i64 0, .bool T.dirty] 47))
           obtain ⟨z0, z1, _, _⟩ := D1.out.two
           obtain ⟨v0, v1, v2, _⟩ := D3.out.three
           clear hb3 y0 y1)
        | (
           go_at_call 17
           refine (PL.out _ (H.out.below HB3.out)).mono ?_
           rintro r w4 ⟨rfl, hb4⟩
           have E1 := hide (D1.out.below hb4 D1.out.lt)
           have E2 := hide (D2.out.below hb4 D2.out.lt)
           have E3 := hide (D3.out.below hb4 D3.out.lt)
           have R4 := hide (R3.out.below hb4)
           have HB4 := hide (Below.then_ HB3.out hb4)
           obtain ⟨z0, z1, _, _⟩ := E2.out.two
           obtain ⟨v0, v1, v2, _⟩ := E3.out.three
           clear hb4)
        | (
           go_at_call 18
           refine (DR.out _ R4.out).mono ?_
           rintro r w5 ⟨A5, n5, c5, rfl, hown, hb5⟩
           obtain rfl : mm = n5 := by have := (Rit.of_own hown).len; have := HY.out; have := HXL.out; omega
           have F1 := hide ((E1.out.below hb5 E1.out.lt).alloc (.cells #[.int .i64 rm, .slice A5 mm c5] 28))
           have F2 := hide ((E2.out.below hb5 E2.out.lt).alloc (.cells #[.int .i64 rm, .slice A5 mm c5] 28))
           have F3 := hide ((E3.out.below hb5 E3.out.lt).alloc (.cells #[.int .i64 rm, .slice A5 mm c5] 28))
           have F5 := hide (Vk.new w5 28 [.int .i64 rm, .slice A5 mm c5])
           have R5 := hide (Rit.al (Rit.of_own hown) (.cells #[.int .i64 rm, .slice A5 mm c5] 28))
           have GA := hide (show ∀ a, A5 = some a → w4.heap.size ≤ a.block from fun a ha => (own_lt hown a.block (by rw [ha]; rfl)).1)
           have HB5 := hide (Below.al (Below.then_ HB4.out hb5) (.cells #[.int .i64 rm, .slice A5 mm c5] 28))
           have S5 := hide (show w4.heap.size ≤ w5.heap.size from hb5.size)
           obtain ⟨z0, z1, r0, r1⟩ := F2.out.two
           obtain ⟨v0, v1, v2, _⟩ := F3.out.three
           obtain ⟨s0, s1, _, _⟩ := F5.out.two
           clear hown hb5))
      have hl2 := E2.out.lt
      have hs5 := S5.out
      have hs2' := hs2.out
      have ne1 : ¬ w2.heap.size = w5.heap.size := by omega
      have ne2 : ¬ w5.heap.size = w2.heap.size := by omega
      go_region_held (fun z => z.cell? ⟨w5.heap.size, 0, none⟩ = some (.int .i64 rm) ∧ z.cell? ⟨w5.heap.size, 1, none⟩ = some (.slice A5 mm c5)) (go_keep) (fail)
      all_goals (
        go_wp2_with fail
        go_roundw
        case rel =>
          refine ⟨k + 1, mm, c5, K, A5, Y, rfl, by go_num, by omega, (F1.out.drew.far (by simp; omega) _).far (by simp; omega) _, ?_, ?_, H5.out, H6.out, (HB5.out.drew.setCell (by simp; omega) _).setCell (by simp; omega) _⟩
          · have Z := (F2.out.drew.set_ 0 (.int .i64 rm)).set_ 1 (.slice A5 mm c5)
            simp only [List.set_cons_zero, List.set_cons_succ] at Z
            exact Z
          · exact Rd.setCell (Rd.setCell R5.out.drew (fun a ha _ e => by have := GA.out a ha; simp at e; omega) _) (fun a ha _ e => by have := GA.out a ha; simp at e; omega) _
        case measure => simp [intOf]; omega)
set_option maxHeartbeats 4000000 in
theorem drops_any (rm : Int) (A : Option Addr) (n c : Nat) (L : List It) (w : World) (h : Rit w A n L) :
    Calls Try.prog 5 #[.agg #[.int .i64 rm, .slice A n c]] w fun e w' => e = .returned (.bool true) ∧ Below w.heap.size w w' := by
  by_cases hn : 40 < n
  · have d0 : decide (40 < (n : Int)) = true := by simp; omega
    go_enter Try.func5, Try.ntmps5
    go_wp2_with (go_at_call 6; refine (awake_any _).mono ?_; rintro r w9 ⟨rfl, hb9⟩)
    go_ret
    exact ⟨rfl, Below.then_ (Below.al (Below.refl _ _) _) hb9⟩
  · by_cases hck : checkC rm L = 0
    · exact drops_in rm A n c L w (by omega) h hck
    · have d0 : decide (40 < (n : Int)) = false := by simp; omega
      have HB0 := hide (Below.al (Below.refl w.heap.size w) (.cells #[.int .i64 rm, .slice A n c] 24))
      have RC := hide (rcheck_any rm A n c L (w.alloc (.cells #[.int .i64 rm, .slice A n c] 24)) (by omega) (h.below HB0.out))
      obtain ⟨E, hE⟩ : ∃ E, checkC rm L = E := ⟨_, rfl⟩
      rw [hE] at RC hck
      have dE : (E != 0) = true := by simp [hck]
      clear h hE hck
      go_enter Try.func5, Try.ntmps5
      go_wp2_with (first
        | (go_at_call 13
           refine RC.out.mono ?_
           rintro r w1 ⟨rfl, hb1⟩)
        | (go_at_call 6
           refine (awake_any _).mono ?_
           rintro r w9 ⟨rfl, hb9⟩))
      go_ret
      exact ⟨rfl, Below.then_ (Below.then_ HB0.out hb1) hb9⟩
end Go.Proofs.Ytiaahlkhpghnnaa
