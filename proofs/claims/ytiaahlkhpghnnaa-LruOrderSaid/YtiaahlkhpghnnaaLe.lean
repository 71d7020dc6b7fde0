/- The walks of New, and of the document's in, Place, Check, New, Same. -/
import Derived.Test.YtiaahlkhpghnnaaLd
namespace Go.Proofs.Ytiaahlkhpghnnaa
open Go.RowKit Go.Instr

theorem check_empty (room : Int) : checkC room [] = if room < 1 ∨ 4096 < room then 2 else 0 := by simp [checkC, ids]
/-- A new cache: its room, and why not. -/
def newC (room : Int) : Int × Int := if checkC room [] = 0 then (room, 0) else (0, checkC room [])
def newV (room : Int) : Value := .tuple #[.agg #[.int .i64 (newC room).1, .slice none 0 0], .int .i64 (newC room).2]
set_option maxHeartbeats 1000000 in
theorem new_any (room : Int) (w : World) : Calls Try.prog 7 #[.int .i64 room] w fun e w' => e = .returned (newV room) ∧ Below w.heap.size w w' := by
  obtain ⟨V1, V2⟩ := boxes2 w 28 28 [.int .i64 0, .slice none 0 0] [.int .i64 room, .slice none 0 0]
  have B1 := hide V1
  have B2 := hide V2
  have CK := hide (fun w => check_any room none 0 0 [] w (by omega) (Rit.none_ _ _))
  obtain ⟨E, hE⟩ : ∃ E, checkC room [] = E := ⟨_, rfl⟩
  rw [hE] at CK
  have HE := hide hE
  have HB := hide (Below.al (Below.al (Below.refl w.heap.size w) (.cells #[.int .i64 0, .slice none 0 0] 28)) (.cells #[.int .i64 room, .slice none 0 0] 28))
  clear hE V1 V2
  by_cases h0 : E = 0
  · subst h0
    have hv : newV room = .tuple #[.agg #[.int .i64 room, .slice none 0 0], .int .i64 0] := by unfold newV newC; rw [if_pos HE.out]
    rw [hv]
    clear hv
    go_enter Try.func7, Try.ntmps7
    go_wp2_with (
      go_at_call 11
      refine (CK.out _).mono ?_
      rintro r w1 ⟨rfl, hb1⟩
      have V1' := hide (B1.out.below hb1 B1.out.lt)
      have V2' := hide (B2.out.below hb1 B2.out.lt)
      obtain ⟨c10, c11, f10, f11⟩ := V1'.out.two
      obtain ⟨c20, c21, f20, f21⟩ := V2'.out.two
      have HB1 := hide (Below.then_ HB.out hb1)
      clear hb1)
    have V3 := (V1'.out.set_ 0 (.int .i64 room)).set_ 1 (.slice none 0 0)
    simp only [List.set_cons_zero, List.set_cons_succ] at V3
    obtain ⟨d0, d1, _⟩ := V3.two
    refine bodyPost_ret (v := .tuple #[.agg #[.int .i64 room, .slice none 0 0], .int .i64 0]) (by simp [results, Try.results7, go_sem, d0, d1]) rfl ⟨rfl, ?_⟩
    exact (HB1.out.setCell (by simp) _).setCell (by simp) _
  · have hv : newV room = .tuple #[.agg #[.int .i64 0, .slice none 0 0], .int .i64 E] := by unfold newV newC; rw [if_neg (by rw [HE.out]; exact h0), HE.out]
    rw [hv]
    have dn : (E != 0) = true := by simp [h0]
    clear hv h0
    go_enter Try.func7, Try.ntmps7
    go_wp2_with (
      go_at_call 11
      refine (CK.out _).mono ?_
      rintro r w1 ⟨rfl, hb1⟩
      have V1' := hide (B1.out.below hb1 B1.out.lt)
      have V2' := hide (B2.out.below hb1 B2.out.lt)
      obtain ⟨c10, c11, f10, f11⟩ := V1'.out.two
      obtain ⟨c20, c21, f20, f21⟩ := V2'.out.two
      have HB1 := hide (Below.then_ HB.out hb1)
      clear hb1)
    have V3 := (V1'.out.set_ 0 (.int .i64 0)).set_ 1 (.slice none 0 0)
    simp only [List.set_cons_zero, List.set_cons_succ] at V3
    obtain ⟨d0, d1, _⟩ := V3.two
    refine bodyPost_ret (v := .tuple #[.agg #[.int .i64 0, .slice none 0 0], .int .i64 E]) (by simp [results, Try.results7, go_sem, d0, d1]) rfl ⟨rfl, ?_⟩
    exact (HB1.out.setCell (by simp) _).setCell (by simp) _
theorem rin_any (x : Int) (w : World) : Calls Try.prog 26 #[.int .i64 x] w fun e w' => e = .returned (.bool (inR x)) ∧ w = w' := by
  unfold inR
  by_cases h0 : 0 ≤ x
  · by_cases h1 : x ≤ 1099511627776
    · rw [decide_eq_true ⟨h0, h1⟩]
      go_enter Try.func26, Try.ntmps26
      go_wp2_with fail
      go_ret
      exact ⟨rfl, rfl⟩
    · rw [decide_eq_false (fun h => h1 h.2)]
      go_enter Try.func26, Try.ntmps26
      go_wp2_with fail
      go_ret
      exact ⟨rfl, rfl⟩
  · rw [decide_eq_false (fun h => h0 h.1)]
    go_enter Try.func26, Try.ntmps26
    go_wp2_with fail
    go_ret
    exact ⟨rfl, rfl⟩
set_option maxHeartbeats 1000000 in
theorem rplace_any (room : Int) (A : Option Addr) (n c : Nat) (L : List It) (id : Int) (w : World) (hn : (n : Int) ≤ 9223372036854775807) (h : Rit w A n L) :
    Calls Try.prog 17 #[.agg #[.int .i64 room, .slice A n c], .int .i64 id] w fun e w' => e = .returned (.int .i64 (place L id)) ∧ Below w.heap.size w w' := by
  have H := hide h
  have HL := hide h.len
  clear h
  go_enter Try.func17, Try.ntmps17
  go_wp2_with fail
  go_loopw [5] (fun i wr => ∃ k : Nat, k ≤ n ∧ i = .int .i64 k ∧ (∀ j, j < k → ((nthI L j).id == id) = false) ∧ wr = w.alloc (.cells #[.int .i64 room, .slice A n c] 24)) (fun i _ => n - (intOf i).toNat)
  case atStart => exact ⟨0, Nat.zero_le _, rfl, fun j hj => absurd hj (by omega), rfl⟩
  case round =>
    obtain ⟨k, hk, rfl, hno, rfl⟩ := hrel
    have HN := hide hno
    clear hno
    by_cases hlt : k < n
    · obtain ⟨b, o, rfl, hb, h0, _, _⟩ := (H.out.below (Below.al (Below.refl _ _) (.cells #[.int .i64 room, .slice A n c] 24))).at_ hlt
      have h0' := fun x y z => al_cell (w := w) (H.out.cells hlt).2.1 (.cells #[x, .slice y n z] 24)
      have hjn : (k : Int) < (n : Int) := by omega
      obtain ⟨q, hq⟩ : ∃ q, ((nthI L k).id == id) = q := ⟨_, rfl⟩
      have HQ := hide hq
      clear hb
      cases q
      · go_wp2_with fail
        go_roundw
        case rel =>
          refine ⟨k + 1, by omega, by go_num, fun j hj => ?_, by trivial⟩
          rcases Nat.lt_or_ge j k with h1 | h1
          · exact HN.out j h1
          · obtain rfl : j = k := by omega
            exact HQ.out
        case measure => simp [intOf]; omega
      · go_wp2_with fail
        go_ret
        exact ⟨by unfold place; rw [idxV_at (by rw [HL.out]; exact hlt) HQ.out HN.out]; rfl, Below.al (Below.refl _ _) _⟩
    · obtain rfl : k = n := by omega
      go_wp2_with fail
      go_ret
      exact ⟨by unfold place; rw [idxV_none (fun j hj => HN.out j (by rw [← HL.out]; exact hj))]; rfl, Below.al (Below.refl _ _) _⟩
/-- No number stands twice: each is first where it stands. -/
theorem place_self {L : List It} : (∀ k, k < L.length → place L (nthI L k).id = k) ↔ (ids L).Nodup := by
  have hget : ∀ j (h : j < (ids L).length), (ids L)[j] = (nthI L j).id := fun j h => by
    have : j < L.length := by simpa [ids] using h
    simp [ids, nthI, List.getD, this]
  have hlen : (ids L).length = L.length := by simp [ids]
  constructor
  · intro h
    rw [List.nodup_iff_pairwise_ne, List.pairwise_iff_getElem]
    intro i j hi hj hij e
    have e1 := h i (by omega)
    have e2 := h j (by omega)
    rw [hget, hget] at e
    rw [e, e2] at e1
    omega
  · intro h k hk
    refine idxV_at hk (by simp) (fun j hj => ?_)
    rw [List.nodup_iff_pairwise_ne, List.pairwise_iff_getElem] at h
    have := h j k (by omega) (by omega) hj
    rw [hget, hget] at this
    simpa using this
theorem place_at {L : List It} {k : Nat} (hk : k < L.length) : ∃ i : Nat, place L (nthI L k).id = i ∧ i ≤ k := by
  by_cases h : ∃ i, i < k ∧ (nthI L i).id = (nthI L k).id
  · obtain ⟨h1, h2⟩ := idxV_range (fun t => t.id == (nthI L k).id) L
    unfold place
    unfold idxV at *
    cases hq : L.findIdx? (fun t => t.id == (nthI L k).id) with
    | none =>
      obtain ⟨i, hi, he⟩ := h
      rw [List.findIdx?_eq_none_iff] at hq
      have := hq (nthI L i) (by have : nthI L i = L[i]'(by omega) := by simp [nthI, List.getD, show i < L.length by omega]
                                rw [this]; exact List.getElem_mem _)
      simp [he] at this
    | some i =>
      refine ⟨i, rfl, ?_⟩
      obtain ⟨hi, _, hno⟩ := List.findIdx?_eq_some_iff_getElem.1 hq
      rcases Nat.lt_or_ge k i with h3 | h3
      · have := hno k h3
        have e : L[k] = nthI L k := by simp [nthI, List.getD, hk]
        simp [e] at this
      · exact h3
  · refine ⟨k, idxV_at hk (by simp) (fun j hj => ?_), Nat.le_refl _⟩
    have : ¬ (nthI L j).id = (nthI L k).id := fun e => h ⟨j, hj, e⟩
    simpa using this
set_option maxHeartbeats 4000000 in
theorem rcheck_any (room : Int) (A : Option Addr) (n c : Nat) (L : List It) (w : World) (hn : n ≤ 1000) (h : Rit w A n L) :
    Calls Try.prog 13 #[.agg #[.int .i64 room, .slice A n c]] w fun e w' => e = .returned (.int .i64 (checkC room L)) ∧ Below w.heap.size w w' := by
  have H := hide h
  have HL := hide h.len
  by_cases hr : room < 1 ∨ 4096 < room
  · have hc : checkC room L = 2 := by unfold checkC; rw [if_pos hr]
    rw [hc]
    clear h hc
    by_cases h1 : room < 1
    · go_enter Try.func13, Try.ntmps13
      go_wp2_with fail
      go_ret
      exact ⟨rfl, Below.al (Below.refl _ _) _⟩
    · have h2 : 4096 < room := by omega
      go_enter Try.func13, Try.ntmps13
      go_wp2_with fail
      go_ret
      exact ⟨rfl, Below.al (Below.refl _ _) _⟩
  · have h1 : decide (room < 1) = false := by simp; omega
    have h2 : decide (4096 < room) = false := by simp; omega
    have h3 : decide (8192 < (n : Int)) = false := by simp; omega
    have hc : checkC room L = if L.all okI = false then 9 else if (ids L).Nodup then 0 else 12 := by unfold checkC; rw [if_neg hr, if_neg (by rw [h.len]; omega)]
    obtain ⟨R, hR⟩ : ∃ R, (if L.all okI = false then (9 : Int) else if (ids L).Nodup then 0 else 12) = R := ⟨_, rfl⟩
    rw [hc, hR]
    have HR := hide hR
    have V1 := hide (Vk.new w 24 [.int .i64 room, .slice A n c])
    clear h hc hr hR
    go_enter Try.func13, Try.ntmps13
    go_wp2_with fail
    go_loopw [3] (fun i wr => ∃ k : Nat, k ≤ n ∧ i = .int .i64 k ∧ (∀ j, j < k → okI (nthI L j) = true) ∧ Vk wr w.heap.size 24 [.int .i64 room, .slice A n c] ∧ Below w.heap.size w wr) (fun i _ => n - (intOf i).toNat)
    case atStart => exact ⟨0, Nat.zero_le _, rfl, fun j hj => absurd hj (by omega), V1.out, Below.al (Below.refl _ _) _⟩
    case round =>
      obtain ⟨k, hk, rfl, hok, hbox, hbr⟩ := hrel
      have OK := hide hok
      have BX := hide hbox
      have HB := hide hbr
      obtain ⟨c0, c1, _, _⟩ := hbox.two
      clear hok hbox
      by_cases hlt : k < n
      · obtain ⟨b, o, rfl, _, g0, g1, g2⟩ := (H.out.below hbr).at_ hlt
        have hjn : (k : Int) < (n : Int) := by omega
        obtain ⟨T, hT⟩ : ∃ T, nthI L k = T := ⟨_, rfl⟩
        rw [hT] at g0 g1 g2
        have I1 := hide (fun w => rin_any T.id w)
        have I2 := hide (fun w => rin_any T.pins w)
        have HT := hide hT
        obtain ⟨q1, hq1⟩ : ∃ q, inR T.id = q := ⟨_, rfl⟩
        obtain ⟨q2, hq2⟩ : ∃ q, inR T.pins = q := ⟨_, rfl⟩
        rw [hq1] at I1
        rw [hq2] at I2
        have HQ1 := hide hq1
        have HQ2 := hide hq2
        clear hbr hT hq1 hq2
        cases q1
        · go_wp2_with (first
            | (go_at_call_of 26 (Value.int .i64 T.id); refine (I1.out _).mono ?_; rintro r w1 ⟨rfl, rfl⟩))
          go_ret
          rw [← HR.out, if_pos (all_no (k := k) (by rw [HL.out]; exact hlt) (by rw [HT.out, okI, HQ1.out]; rfl))]
          exact ⟨rfl, HB.out⟩
        cases q2
        · go_wp2_with (first
            | (go_at_call_of 26 (Value.int .i64 T.id); refine (I1.out _).mono ?_; rintro r w1 ⟨rfl, rfl⟩)
            | (go_at_call_of 26 (Value.int .i64 T.pins); refine (I2.out _).mono ?_; rintro r w1 ⟨rfl, rfl⟩))
          go_ret
          rw [← HR.out, if_pos (all_no (k := k) (by rw [HL.out]; exact hlt) (by rw [HT.out, okI, HQ1.out, HQ2.out]; rfl))]
          exact ⟨rfl, HB.out⟩
        go_wp2_with (first
          | (go_at_call_of 26 (Value.int .i64 T.id); refine (I1.out _).mono ?_; rintro r w1 ⟨rfl, rfl⟩)
          | (go_at_call_of 26 (Value.int .i64 T.pins); refine (I2.out _).mono ?_; rintro r w1 ⟨rfl, rfl⟩))
        go_roundw
        case rel =>
          refine ⟨k + 1, by omega, by go_num, fun j hj => ?_, BX.out, HB.out⟩
          rcases Nat.lt_or_ge j k with h1 | h1
          · exact OK.out j h1
          · obtain rfl : j = k := by omega
            rw [HT.out, okI, HQ1.out, HQ2.out]; rfl
        case measure => simp [intOf]; omega
      · obtain rfl : k = n := by omega
        have hall : L.all okI = true := all_yes (fun j hj => OK.out j (by rw [← HL.out]; exact hj))
        have HALL := hide hall
        clear hall
        go_wp2_with fail
        go_loopw [4] (fun i wr => ∃ j : Nat, j ≤ k ∧ i = .int .i64 j ∧ (∀ i, i < j → place L (nthI L i).id = i) ∧ Vk wr w.heap.size 24 [.int .i64 room, .slice A k c] ∧ Below w.heap.size w wr) (fun i _ => k - (intOf i).toNat)
        case atStart => exact ⟨0, Nat.zero_le _, rfl, fun j hj => absurd hj (by omega), BX.out, HB.out⟩
        case round =>
          obtain ⟨j, hj, rfl, hno, hbox, hbr⟩ := hrel
          have NO := hide hno
          have BX2 := hide hbox
          have HB2 := hide hbr
          obtain ⟨c0, c1, _, _⟩ := hbox.two
          clear hno hbox
          by_cases hlt : j < k
          · obtain ⟨b, o, rfl, hb, g0, g1, g2⟩ := (H.out.below hbr).at_ hlt
            have hjk : (j : Int) < (k : Int) := by omega
            have hj0 : (0 : Int) ≤ (j : Int) := by omega
            obtain ⟨p, hp, hpj⟩ := place_at (L := L) (k := j) (by rw [HL.out]; exact hlt)
            have PL := hide (rplace_any room (some ⟨b, o, none⟩) k c L (nthI L j).id _ (by omega) (Rd.drew (H.out.below hbr)))
            rw [hp] at PL
            have HP := hide hp
            have blt := hide (show b < wr.drew.heap.size from hb)
            have wlt := hide (show w.heap.size < wr.drew.heap.size from BX2.out.lt)
            clear hbr hp hb g1 g2
            go_wp2_with fail
            go_region_held (fun z => z.cell? ⟨w.heap.size, 0, none⟩ = some (.int .i64 room) ∧ z.cell? ⟨w.heap.size, 1, none⟩ = some (.slice (some ⟨b, o, none⟩) k c) ∧ z.cell? ⟨b, o + j * 3, none⟩ = some (.int .i64 (nthI L j).id))
              (first
                | go_keep
                | exact ⟨(HB1.out.cell (p := ⟨w.heap.size, 0, none⟩) wlt.out).trans c0, (HB1.out.cell (p := ⟨w.heap.size, 1, none⟩) wlt.out).trans c1, (HB1.out.cell (p := ⟨b, o + j * 3, none⟩) blt.out).trans g0⟩)
              (first
                | (go_at_call 17
                   refine PL.out.mono ?_
                   rintro r w1 ⟨rfl, hb1⟩
                   have HB1 := hide hb1
                   have BX3 := hide (BX2.out.drew.below hb1 wlt.out)
                   have HB3 := hide (Below.then_ HB2.out.drew hb1)
                   clear hb1))
            all_goals (by_cases hpj2 : p = j)
            · subst hpj2
              go_wp2_with fail
              go_roundw
              case rel =>
                refine ⟨p + 1, by omega, by go_num, fun i hi => ?_, BX3.out, HB3.out⟩
                rcases Nat.lt_or_ge i p with h1 | h1
                · exact NO.out i h1
                · obtain rfl : i = p := by omega
                  exact HP.out
              case measure => simp [intOf]; omega
            · have dn : ((p : Int) != (j : Int)) = true := by rw [bne_iff_ne]; omega
              go_wp2_with fail
              go_ret
              rw [← HR.out, if_neg (by rw [HALL.out]; simp), if_neg (fun hnd => by
                have := place_self.2 hnd j (by rw [HL.out]; exact hlt)
                rw [HP.out] at this
                omega)]
              exact ⟨rfl, HB3.out⟩
          · obtain rfl : j = k := by omega
            go_wp2_with fail
            go_ret
            rw [← HR.out, if_neg (by rw [HALL.out]; simp), if_pos (place_self.1 (fun i hi => NO.out i (by rw [← HL.out]; exact hi)))]
            exact ⟨rfl, HB2.out⟩
set_option maxHeartbeats 1000000 in
theorem rnew_any (room : Int) (w : World) : Calls Try.prog 8 #[.int .i64 room] w fun e w' => e = .returned (newV room) ∧ Below w.heap.size w w' := by
  obtain ⟨V1, V2⟩ := boxes2 w 24 24 [.int .i64 0, .slice none 0 0] [.int .i64 room, .slice none 0 0]
  have B1 := hide V1
  have B2 := hide V2
  have CK := hide (fun w => rcheck_any room none 0 0 [] w (by omega) (Rit.none_ _ _))
  obtain ⟨E, hE⟩ : ∃ E, checkC room [] = E := ⟨_, rfl⟩
  rw [hE] at CK
  have HE := hide hE
  have HB := hide (Below.al (Below.al (Below.refl w.heap.size w) (.cells #[.int .i64 0, .slice none 0 0] 24)) (.cells #[.int .i64 room, .slice none 0 0] 24))
  clear hE V1 V2
  by_cases h0 : E = 0
  · subst h0
    have hv : newV room = .tuple #[.agg #[.int .i64 room, .slice none 0 0], .int .i64 0] := by unfold newV newC; rw [if_pos HE.out]
    rw [hv]
    clear hv
    go_enter Try.func8, Try.ntmps8
    go_wp2_with (
      go_at_call 13
      refine (CK.out _).mono ?_
      rintro r w1 ⟨rfl, hb1⟩
      have V1' := hide (B1.out.below hb1 B1.out.lt)
      have V2' := hide (B2.out.below hb1 B2.out.lt)
      obtain ⟨c10, c11, f10, f11⟩ := V1'.out.two
      obtain ⟨c20, c21, f20, f21⟩ := V2'.out.two
      have HB1 := hide (Below.then_ HB.out hb1)
      clear hb1)
    have V3 := (V1'.out.set_ 0 (.int .i64 room)).set_ 1 (.slice none 0 0)
    simp only [List.set_cons_zero, List.set_cons_succ] at V3
    obtain ⟨d0, d1, _⟩ := V3.two
    refine bodyPost_ret (v := .tuple #[.agg #[.int .i64 room, .slice none 0 0], .int .i64 0]) (by simp [results, Try.results8, go_sem, d0, d1]) rfl ⟨rfl, ?_⟩
    exact (HB1.out.setCell (by simp) _).setCell (by simp) _
  · have hv : newV room = .tuple #[.agg #[.int .i64 0, .slice none 0 0], .int .i64 E] := by unfold newV newC; rw [if_neg (by rw [HE.out]; exact h0), HE.out]
    rw [hv]
    have dn : (E != 0) = true := by simp [h0]
    clear hv h0
    go_enter Try.func8, Try.ntmps8
    go_wp2_with (
      go_at_call 13
      refine (CK.out _).mono ?_
      rintro r w1 ⟨rfl, hb1⟩
      have V1' := hide (B1.out.below hb1 B1.out.lt)
      have V2' := hide (B2.out.below hb1 B2.out.lt)
      obtain ⟨c10, c11, f10, f11⟩ := V1'.out.two
      obtain ⟨c20, c21, f20, f21⟩ := V2'.out.two
      have HB1 := hide (Below.then_ HB.out hb1)
      clear hb1)
    have V3 := (V1'.out.set_ 0 (.int .i64 0)).set_ 1 (.slice none 0 0)
    simp only [List.set_cons_zero, List.set_cons_succ] at V3
    obtain ⟨d0, d1, _⟩ := V3.two
    refine bodyPost_ret (v := .tuple #[.agg #[.int .i64 0, .slice none 0 0], .int .i64 E]) (by simp [results, Try.results8, go_sem, d0, d1]) rfl ⟨rfl, ?_⟩
    exact (HB1.out.setCell (by simp) _).setCell (by simp) _
end Go.Proofs.Ytiaahlkhpghnnaa
