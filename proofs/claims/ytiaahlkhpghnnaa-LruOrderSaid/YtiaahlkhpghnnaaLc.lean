/- The walks of Over, Victim, Equal, Same. -/
import Derived.Test.YtiaahlkhpghnnaaLb
import Derived.Laws.StructEq
namespace Go.Proofs.Ytiaahlkhpghnnaa
open Go.RowKit

theorem Rit.cells {w : World} {b o n : Nat} {L : List It} (h : Rit w (some ⟨b, o, none⟩) n L) {k : Nat} (hk : k < n) : b < w.heap.size ∧ w.cell? ⟨b, o + k * 3, none⟩ = some (.int .i64 (nthI L k).id) ∧ w.cell? ⟨b, o + k * 3 + 1, none⟩ = some (.int .i64 (nthI L k).pins) ∧ w.cell? ⟨b, o + k * 3 + 2, none⟩ = some (.bool (nthI L k).dirty) := by
  obtain ⟨b', o', e, h0, h1, h2, h3⟩ := h.at_ hk
  cases e
  exact ⟨h0, h1, h2, h3⟩
/-- How many are too many. -/
def overI (room : Int) (n : Nat) : Int := max 0 ((n : Int) - max 0 room)
def i64 (x : Int) : Prop := -9223372036854775808 ≤ x ∧ x ≤ 9223372036854775807
set_option maxHeartbeats 1000000 in
theorem over_any (room : Int) (A : Option Addr) (n c : Nat) (w : World) (hn : n ≤ 1000) (hr : i64 room) :
    Calls Try.prog 19 #[.agg #[.int .i64 room, .slice A n c]] w fun e w' => e = .returned (.int .i64 (overI room n)) ∧ Below w.heap.size w w' := by
  obtain ⟨h1, h2⟩ := hr
  obtain ⟨M, hM⟩ : ∃ M, (if room > 0 then room else 0) = M := ⟨_, rfl⟩
  obtain ⟨N, hN⟩ : ∃ N, (if (n : Int) - M > 0 then (n : Int) - M else 0) = N := ⟨_, rfl⟩
  have hMb : 0 ≤ M ∧ M ≤ 9223372036854775807 := by split at hM <;> omega
  have hO : overI room n = N := by
    unfold overI
    rw [← hN, ← hM]
    split <;> split <;> omega
  have m1 : ∀ w, (Builtin.max_ #[3, 3] 3 #[.int .i64 0, .int .i64 room]).run Try.prog w = .ok (.int .i64 M) w := fun w => by rw [run_max_int2, hM]
  have m2 : ∀ w, (Builtin.max_ #[3, 3] 3 #[.int .i64 0, .int .i64 ((n : Int) - M)]).run Try.prog w = .ok (.int .i64 N) w := fun w => by rw [run_max_int2, hN]
  have hw : IntKind.i64.wrap ((n : Int) - M) = (n : Int) - M := by rw [IntKind.wrap_i64]; omega
  rw [hO]
  clear hM hN hO
  go_enter Try.func19, Try.ntmps19
  go_wp2_with fail
  go_ret
  exact ⟨rfl, Below.al (Below.refl _ _) _⟩
/-- Which is to go. -/
def vict (room : Int) (L : List It) : Option It := if idxV (fun t => t.pins == 0) L < 0 ∨ overI room L.length = 0 then none else some (nthI L (idxV (fun t => t.pins == 0) L).toNat)
def victV (o : Option It) : Value := .tuple #[itV (o.getD it0), .bool o.isSome]
theorem idxV_range (p : It → Bool) (L : List It) : -1 ≤ idxV p L ∧ idxV p L < L.length := by
  unfold idxV
  cases h : L.findIdx? p with
  | none => simp; omega
  | some k =>
    have := (List.findIdx?_eq_some_iff_getElem.1 h).1
    simp; omega
theorem boxes2 (w : World) (t u : TypeId) (xs ys : List Value) : Vk ((w.alloc (.cells xs.toArray t)).alloc (.cells ys.toArray u)) w.heap.size t xs ∧ Vk ((w.alloc (.cells xs.toArray t)).alloc (.cells ys.toArray u)) (w.heap.size + 1) u ys := by
  refine ⟨(Vk.new w t xs).alloc _, ?_⟩
  have := Vk.new (w.alloc (.cells xs.toArray t)) u ys
  simpa using this
set_option maxHeartbeats 2000000 in
theorem victim_any (room : Int) (A : Option Addr) (n c : Nat) (L : List It) (w : World) (hn : n ≤ 1000) (hr : i64 room) (h : Rit w A n L) :
    Calls Try.prog 16 #[.agg #[.int .i64 room, .slice A n c]] w fun e w' => e = .returned (victV (vict room L)) ∧ Below w.heap.size w w' := by
  have H := hide h
  have HL := hide h.len
  obtain ⟨V1, V2⟩ := boxes2 w 28 47 [.int .i64 room, .slice A n c] [.int .i64 0, .int .i64 0, .bool false]
  have B1 := hide V1
  have B2 := hide V2
  obtain ⟨I, hI⟩ : ∃ I, idxV (fun t => t.pins == 0) L = I := ⟨_, rfl⟩
  obtain ⟨O, hO⟩ : ∃ O, overI room n = O := ⟨_, rfl⟩
  have hIr := idxV_range (fun t => t.pins == 0) L
  rw [hI, h.len] at hIr
  have IX := hide (fun w h => idx_free A n c L w (by omega) h)
  rw [hI] at IX
  have OV := hide (fun w => over_any room A n c w hn hr)
  rw [hO] at OV
  have HV := hide (show vict room L = if I < 0 ∨ O = 0 then none else some (nthI L I.toNat) by unfold vict; rw [hI, h.len, hO])
  have HW := hide (Below.al (Below.al (Below.refl w.heap.size w) (.cells #[.int .i64 room, .slice A n c] 28)) (.cells #[.int .i64 0, .int .i64 0, .bool false] 47))
  clear h hI hO V1 V2
  by_cases hneg : I < 0
  · have HN := hide (show vict room L = none by rw [HV.out, if_pos (.inl hneg)])
    go_enter Try.func16, Try.ntmps16
    go_wp2_with (
      go_at_call 28
      refine (IX.out _ (H.out.below HW.out)).mono ?_
      rintro r w1 ⟨rfl, hb1⟩
      obtain ⟨c10, c11, f10, f11⟩ := (B1.out.below hb1 (by simp; omega)).two
      have V2' := B2.out.below hb1 (by simp)
      obtain ⟨c20, c21, c22, f20, f21, f22⟩ := V2'.three
      have HB1 := hide (Below.then_ HW.out hb1)
      clear hb1)
    rw [HN.out]
    have V3 := ((V2'.set_ 0 (.int .i64 0)).set_ 1 (.int .i64 0)).set_ 2 (.bool false)
    simp only [List.set_cons_zero, List.set_cons_succ] at V3
    obtain ⟨d0, d1, d2, _⟩ := V3.three
    refine bodyPost_ret (v := victV none) (by simp [results, Try.results16, go_sem, d0, d1, d2, victV, itV, it0]) rfl ⟨rfl, ?_⟩
    exact ((HB1.out.setCell (by simp) _).setCell (by simp) _).setCell (by simp) _
  · obtain ⟨i, rfl⟩ := Int.eq_ofNat_of_zero_le (show 0 ≤ I by omega)
    by_cases hz : O = 0
    · subst hz
      have HN := hide (show vict room L = none by rw [HV.out, if_pos (.inr rfl)])
      go_enter Try.func16, Try.ntmps16
      go_wp2_with (first
        | (
           go_at_call 28
           refine (IX.out _ (H.out.below HW.out)).mono ?_
           rintro r w1 ⟨rfl, hb1⟩
           have V1' := hide (B1.out.below hb1 (by simp; omega))
           have V2' := hide (B2.out.below hb1 (by simp))
           obtain ⟨c10, c11, f10, f11⟩ := V1'.out.two
           have HB1 := hide (Below.then_ HW.out hb1)
           clear hb1)
        | (
           go_at_call 19
           refine (OV.out w1).mono ?_
           rintro r w2 ⟨rfl, hb2⟩
           have V1'' := hide (V1'.out.below hb2 V1'.out.lt)
           have V2'' := hide (V2'.out.below hb2 V2'.out.lt)
           obtain ⟨e10, e11, _, _⟩ := V1''.out.two
           obtain ⟨e20, e21, e22, g20, g21, g22⟩ := V2''.out.three
           have HB2 := hide (Below.then_ HB1.out hb2)
           clear hb2))
      rw [HN.out]
      have V3 := ((V2''.out.set_ 0 (.int .i64 0)).set_ 1 (.int .i64 0)).set_ 2 (.bool false)
      simp only [List.set_cons_zero, List.set_cons_succ] at V3
      obtain ⟨d0, d1, d2, _⟩ := V3.three
      refine bodyPost_ret (v := victV none) (by simp [results, Try.results16, go_sem, d0, d1, d2, victV, itV, it0]) rfl ⟨rfl, ?_⟩
      exact ((HB2.out.setCell (by simp) _).setCell (by simp) _).setCell (by simp) _
    · have dz : (O == 0) = false := by simp [hz]
      have HN := hide (show vict room L = some (nthI L i) by rw [HV.out, if_neg (by omega)]; simp)
      have hin : (i : Int) < (n : Int) := hIr.2
      have hi0 : (0 : Int) ≤ (i : Int) := by omega
      obtain ⟨b, o, rfl, hb, _⟩ := H.out.at_ (k := i) (by omega)
      go_enter Try.func16, Try.ntmps16
      go_wp2_with (first
        | (
           go_at_call 28
           refine (IX.out _ (H.out.below HW.out)).mono ?_
           rintro r w1 ⟨rfl, hb1⟩
           have V1' := hide (B1.out.below hb1 (by simp; omega))
           have V2' := hide (B2.out.below hb1 (by simp))
           obtain ⟨c10, c11, f10, f11⟩ := V1'.out.two
           have HB1 := hide (Below.then_ HW.out hb1)
           clear hb1)
        | (
           go_at_call 19
           refine (OV.out w1).mono ?_
           rintro r w2 ⟨rfl, hb2⟩
           have V1'' := hide (V1'.out.below hb2 V1'.out.lt)
           have V2'' := hide (V2'.out.below hb2 V2'.out.lt)
           obtain ⟨e10, e11, _, _⟩ := V1''.out.two
           obtain ⟨e20, e21, e22, g20, g21, g22⟩ := V2''.out.three
           have HB2 := hide (Below.then_ HB1.out hb2)
           clear hb2
           obtain ⟨_, t0, t1, t2⟩ := (H.out.below HB2.out).cells (k := i) (by omega)))
      rw [HN.out]
      have V3 := ((V2''.out.set_ 0 (.int .i64 (nthI L i).id)).set_ 1 (.int .i64 (nthI L i).pins)).set_ 2 (.bool (nthI L i).dirty)
      simp only [List.set_cons_zero, List.set_cons_succ] at V3
      obtain ⟨d0, d1, d2, _⟩ := V3.three
      refine bodyPost_ret (v := victV (some (nthI L i))) (by simp [results, Try.results16, go_sem, d0, d1, d2, victV, itV]) rfl ⟨rfl, ?_⟩
      exact ((HB2.out.setCell (by simp) _).setCell (by simp) _).setCell (by simp) _
/-- '!=' between items, the program's and the document's. -/
theorem ne_it (t : TypeId) (ht : t = 47 ∨ t = 58) (x y : It) (w : World) : (binOp .neq t (itV x) (itV y)).run Try.prog w = .ok (.bool (!(decide (x = y)))) w := by
  have main : ∀ t, Try.prog.underlying t = some (.struct (Try.prog.fieldsOf t)) → Try.prog.stoodInHeld t = false → Try.prog.fieldsOf t = Try.prog.fieldsOf 47 → (binOp .neq t (itV x) (itV y)).run Try.prog w = .ok (.bool (!(decide (x = y)))) w := by
    intro t hS hp hf
    unfold itV
    rw [run_neq_struct, show (10000 : Nat) = 9999 + 1 from rfl, run_equalIn_agg w 9999 t _ _ hS hp, hf]
    simp only [Program.fieldsOf, Try.underlying47]
    obtain ⟨x1, x2, x3⟩ := x
    obtain ⟨y1, y2, y3⟩ := y
    go_simp
    by_cases h1 : x1 = y1 <;> by_cases h2 : x2 = y2 <;> by_cases h3 : x3 = y3 <;> simp [h1, h2, h3]
  rcases ht with rfl | rfl
  · exact main 47 (by kernel_rfl) (by kernel_rfl) rfl
  · exact main 58 (by kernel_rfl) (by kernel_rfl) (by kernel_rfl)
theorem its_ext {L M : List It} (hl : L.length = M.length) (h : ∀ j, j < L.length → nthI L j = nthI M j) : L = M := by
  apply List.ext_getElem hl
  intro i h1 h2
  have := h i h1
  simpa [nthI, List.getD, h1, h2] using this
set_option maxHeartbeats 2000000 in
theorem equal_any (A : Option Addr) (n c : Nat) (L : List It) (B : Option Addr) (m d : Nat) (M : List It) (w : World) (hn : (n : Int) ≤ 9223372036854775807) (h : Rit w A n L) (h' : Rit w B m M) :
    Calls Try.prog 27 #[.slice A n c, .slice B m d] w fun e w' => e = .returned (.bool (decide (L = M))) ∧ Below w.heap.size w w' := by
  have H := hide h
  have H' := hide h'
  have HL := hide h.len
  have HM := hide h'.len
  by_cases hnm : n = m
  · subst hnm
    clear h h'
    go_enter Try.func27, Try.ntmps27
    go_wp2_with fail
    go_loopw [5, 13] (fun _ i wr => ∃ k : Nat, k ≤ n ∧ i = .int .i64 k ∧ (∀ j, j < k → nthI L j = nthI M j) ∧ Below w.heap.size w wr) (fun _ i _ => n - (intOf i).toNat)
    case atStart => exact ⟨0, Nat.zero_le _, rfl, fun j hj => absurd hj (by omega), Below.refl _ _⟩
    case round =>
      obtain ⟨k, hk, rfl, hsame, hbr⟩ := hrel
      have HB := hide hbr
      have HS := hide hsame
      clear hsame
      by_cases hlt : k < n
      · obtain ⟨b, o, rfl, _, h0, h1, h2⟩ := (H.out.below hbr).at_ hlt
        obtain ⟨b', o', rfl, _, g0, g1, g2⟩ := (H'.out.below hbr).at_ hlt
        have ne := fun w => ne_it 47 (.inl rfl) (nthI L k) (nthI M k) w
        unfold itV at ne
        obtain ⟨q, hq⟩ : ∃ q, (!(decide (nthI L k = nthI M k))) = q := ⟨_, rfl⟩
        have HQ := hide hq
        rw [hq] at ne
        clear hq hbr
        go_wp2_with fail
        go_quiet (fail)
        all_goals cases q
        · go_wp2_with fail
          go_roundw
          case rel =>
            refine ⟨k + 1, by omega, by go_num, fun j hj => ?_, Below.drewN' HB.out _⟩
            rcases Nat.lt_or_ge j k with h1 | h1
            · exact HS.out j h1
            · obtain rfl : j = k := by omega
              have := HQ.out
              simpa using this
          case measure => simp [intOf]; omega
        · go_wp2_with fail
          go_ret
          refine ⟨?_, Below.drewN' HB.out _⟩
          rw [decide_eq_false (fun e => by have := HQ.out; simp [e] at this)]
          rfl
      · obtain rfl : k = n := by omega
        go_wp2_with fail
        go_ret
        refine ⟨?_, HB.out⟩
        rw [decide_eq_true (its_ext (by rw [HL.out, HM.out]) (fun j hj => HS.out j (by rw [← HL.out]; exact hj)))]
        rfl
  · have dn : ((n : Int) != (m : Int)) = true := by rw [bne_iff_ne]; omega
    have hne : L ≠ M := fun e => hnm (by rw [← h.len, ← h'.len, e])
    rw [decide_eq_false hne]
    clear h h' hne
    go_enter Try.func27, Try.ntmps27
    go_wp2_with fail
    go_ret
    exact ⟨rfl, Below.refl _ _⟩
/-- Are two caches one? -/
def sameC (r s : Int) (L M : List It) : Bool := decide (r = s ∧ L = M)
set_option maxHeartbeats 1000000 in
theorem same_any (r s : Int) (A : Option Addr) (n c : Nat) (L : List It) (B : Option Addr) (m d : Nat) (M : List It) (w : World) (hn : (n : Int) ≤ 9223372036854775807) (h : Rit w A n L) (h' : Rit w B m M) :
    Calls Try.prog 14 #[.agg #[.int .i64 r, .slice A n c], .agg #[.int .i64 s, .slice B m d]] w fun e w' => e = .returned (.bool (sameC r s L M)) ∧ Below w.heap.size w w' := by
  have H := hide h
  have H' := hide h'
  have HN := hide hn
  clear h h' hn
  by_cases hrs : r = s
  · subst hrs
    have e : sameC r r L M = decide (L = M) := by simp [sameC]
    rw [e]
    have hb := Below.al (Below.al (Below.refl w.heap.size w) (.cells #[.int .i64 r, .slice A n c] 28)) (.cells #[.int .i64 r, .slice B m d] 28)
    have HB := hide hb
    clear hb e
    go_enter Try.func14, Try.ntmps14
    go_wp2_with (
      go_at_call 27
      refine (equal_any _ _ _ L _ _ _ M _ HN.out (H.out.below HB.out) (H'.out.below HB.out)).mono ?_
      rintro r w1 ⟨rfl, hb1⟩)
    go_ret
    exact ⟨rfl, Below.then_ HB.out hb1⟩
  · have e : sameC r s L M = false := by simp [sameC, hrs]
    rw [e]
    have dr : (r == s) = false := by simp [hrs]
    clear e hrs
    go_enter Try.func14, Try.ntmps14
    go_wp2_with fail
    go_ret
    exact ⟨rfl, Below.al (Below.al (Below.refl _ _) _) _⟩
end Go.Proofs.Ytiaahlkhpghnnaa
