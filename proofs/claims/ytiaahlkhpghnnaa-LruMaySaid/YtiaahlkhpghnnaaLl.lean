/- The walk of the law LruMay. -/
import Derived.Test.YtiaahlkhpghnnaaLk
namespace Go.Proofs.Ytiaahlkhpghnnaa
open Go.RowKit Go.Instr

theorem sameC_self (r : Int) (L : List It) : sameC r r L L = true := by simp [sameC]
theorem bx4 {z : World} {b1 b2 b3 b4 : Nat} {t1 t2 t3 t4 : TypeId} {x1 x2 x3 x4 y1 y2 y3 y4 : Value} (h : Bx z [(b1, t1, [x1, y1]), (b2, t2, [x2, y2]), (b3, t3, [x3, y3]), (b4, t4, [x4, y4])]) :
    z.cell? ⟨b1, 0, none⟩ = some x1 ∧ z.cell? ⟨b1, 1, none⟩ = some y1 ∧ z.cell? ⟨b2, 0, none⟩ = some x2 ∧ z.cell? ⟨b2, 1, none⟩ = some y2 ∧ z.cell? ⟨b3, 0, none⟩ = some x3 ∧ z.cell? ⟨b3, 1, none⟩ = some y3 ∧ z.cell? ⟨b4, 0, none⟩ = some x4 ∧ z.cell? ⟨b4, 1, none⟩ = some y4 := by
  have h1 := (h (b1, t1, [x1, y1]) (by simp)).two
  have h2 := (h (b2, t2, [x2, y2]) (by simp)).two
  have h3 := (h (b3, t3, [x3, y3]) (by simp)).two
  have h4 := (h (b4, t4, [x4, y4]) (by simp)).two
  exact ⟨h1.1, h1.2.1, h2.1, h2.2.1, h3.1, h3.2.1, h4.1, h4.2.1⟩
theorem bx_of4 {z : World} {b1 b2 b3 b4 : Nat} {t1 t2 t3 t4 : TypeId} {x1 x2 x3 x4 : List Value} (h1 : Vk z b1 t1 x1) (h2 : Vk z b2 t2 x2) (h3 : Vk z b3 t3 x3) (h4 : Vk z b4 t4 x4) : Bx z.drew [(b1, t1, x1), (b2, t2, x2), (b3, t3, x3), (b4, t4, x4)] := fun x hx => by
  simp only [List.mem_cons, List.not_mem_nil, or_false] at hx
  rcases hx with rfl | rfl | rfl | rfl
  · exact h1.drew
  · exact h2.drew
  · exact h3.drew
  · exact h4.drew
set_option maxRecDepth 20000 in
set_option maxHeartbeats 16000000 in
theorem may_any (rc : Int) (A : Option Addr) (n c : Nat) (L : List It) (rd : Int) (B : Option Addr) (m d : Nat) (M : List It) (room : Int) (w : World) (h : Rit w A n L) (h' : Rit w B m M) :
    Calls Try.prog 3 #[.agg #[.int .i64 rc, .slice A n c], .agg #[.int .i64 rd, .slice B m d], .int .i64 room] w fun e w' => e = .returned (.bool true) ∧ Below w.heap.size w w' := by
  have H := hide h
  have H' := hide h'
  obtain ⟨V1, V2⟩ := boxes2 w 24 24 [.int .i64 rc, .slice A n c] [.int .i64 rd, .slice B m d]
  have B1 := hide V1
  have B2 := hide V2
  have HB0 := hide (Below.al (Below.al (Below.refl w.heap.size w) (.cells #[.int .i64 rc, .slice A n c] 24)) (.cells #[.int .i64 rd, .slice B m d] 24))
  clear h h' V1 V2
  by_cases hn : 40 < n
  · have d0 : decide (40 < (n : Int)) = true := by simp; omega
    go_enter Try.func3, Try.ntmps3
    go_wp2_with (go_at_call 6; refine (awake_any _).mono ?_; rintro r w9 ⟨rfl, hb9⟩)
    go_ret
    exact ⟨rfl, Below.then_ HB0.out hb9⟩
  · have d0 : decide (40 < (n : Int)) = false := by simp; omega
    by_cases hm : 40 < m
    · have d1 : decide (40 < (m : Int)) = true := by simp; omega
      go_enter Try.func3, Try.ntmps3
      go_wp2_with (go_at_call 6; refine (awake_any _).mono ?_; rintro r w9 ⟨rfl, hb9⟩)
      go_ret
      exact ⟨rfl, Below.then_ HB0.out hb9⟩
    · have d1 : decide (40 < (m : Int)) = false := by simp; omega
      have N1 := hide (fun w => new_any room w)
      have N2 := hide (fun w => rnew_any room w)
      unfold newV at N1 N2
      obtain ⟨R, hR⟩ : ∃ R, newC room = R := ⟨_, rfl⟩
      rw [hR] at N1 N2
      obtain ⟨R, E⟩ := R
      dsimp only at N1 N2
      clear hR
      go_enter Try.func3, Try.ntmps3
      go_wp2_with (first
        | (
           go_at_call 7
           refine (N1.out _).mono ?_
           rintro r w1 ⟨rfl, hb1⟩
           have B1' := hide ((B1.out.below hb1 B1.out.lt).alloc (.cells #[.int .i64 R, .slice none 0 0] 28))
           have B2' := hide ((B2.out.below hb1 B2.out.lt).alloc (.cells #[.int .i64 R, .slice none 0 0] 28))
           have B3' := hide (Vk.new w1 28 [.int .i64 R, .slice none 0 0])
           have HB1 := hide (Below.al (Below.then_ HB0.out hb1) (.cells #[.int .i64 R, .slice none 0 0] 28))
           clear hb1)
        | (
           go_at_call 8
           refine (N2.out _).mono ?_
           rintro r w2 ⟨rfl, hb2⟩
           have BX := hide (show Bx (w2.alloc (.cells #[.int .i64 R, .slice none 0 0] 24)).drew [(w.heap.size, 24, [.int .i64 rc, .slice A n c]), (w.heap.size + 1, 24, [.int .i64 rd, .slice B m d]), (w1.heap.size, 28, [.int .i64 R, .slice none 0 0]), (w2.heap.size, 24, [.int .i64 R, .slice none 0 0])] from bx_of4 ((B1'.out.below hb2 B1'.out.lt).alloc _) ((B2'.out.below hb2 B2'.out.lt).alloc _) ((B3'.out.below hb2 B3'.out.lt).alloc _) (Vk.new w2 24 [.int .i64 R, .slice none 0 0]))
           have HB := hide (show Below w.heap.size w (w2.alloc (.cells #[.int .i64 R, .slice none 0 0] 24)).drew from (Below.al (Below.then_ HB1.out hb2) (.cells #[.int .i64 R, .slice none 0 0] 24)).drew)
           clear hb2))
      have h0 := bx4 BX.out
      obtain ⟨z0, z1, z2, z3, z4, z5, z6, z7⟩ := h0
      have hcc : (checkC rc L == checkC rc L) = true := by simp
      have hee : (E == E) = true := by simp
      have hss : (sameC rc rd L M == sameC rc rd L M) = true := by simp
      obtain ⟨CK, hCK⟩ : ∃ x, checkC rc L = x := ⟨_, rfl⟩
      obtain ⟨SS, hSS⟩ : ∃ x, sameC rc rd L M = x := ⟨_, rfl⟩
      have HCK := hide hCK
      have HSS := hide hSS
      rw [hCK] at hcc
      rw [hSS] at hss
      clear hCK hSS
      go_region_held (fun z => z.cell? ⟨w.heap.size, 0, none⟩ = some (.int .i64 rc) ∧ z.cell? ⟨w.heap.size, 1, none⟩ = some (.slice A n c) ∧ z.cell? ⟨w.heap.size + 1, 0, none⟩ = some (.int .i64 rd) ∧ z.cell? ⟨w.heap.size + 1, 1, none⟩ = some (.slice B m d) ∧
          z.cell? ⟨w1.heap.size, 0, none⟩ = some (.int .i64 R) ∧ z.cell? ⟨w1.heap.size, 1, none⟩ = some (.slice none 0 0) ∧ z.cell? ⟨w2.heap.size, 0, none⟩ = some (.int .i64 R) ∧ z.cell? ⟨w2.heap.size, 1, none⟩ = some (.slice none 0 0))
        (exact bx4 BX.out)
        (first
          | (
             go_at_call 10
             refine (back_turn R none 0 0 [] _ (by omega) (Rit.none_ _ _)).mono ?_
             rintro r w3 ⟨A3, n3, c3, rfl, hown, hb⟩
             have RY := hide (Rit.of_own hown)
             have HB := hide (Below.then_ HB.out hb)
             have BX := hide (BX.out.below hb)
             clear hb hown)
          | (
             go_at_call_of 9 (Value.slice A n c)
             refine (rsame_any rc rd A n c L B m d M _ (by omega) (H.out.below HB.out) (H'.out.below HB.out)).mono ?_
             rintro r w10 ⟨rfl, hb⟩
             rw [HSS.out]
             have HB := hide (Below.then_ HB.out hb)
             have BX := hide (BX.out.below hb)
             clear hb)
          | (
             go_at_call 9
             refine (rsame_any R R A3 n3 c3 [] none 0 0 [] _ (by have := RY.out.len; simp at this; omega) RY.out (Rit.none_ _ _)).mono ?_
             rintro r w4 ⟨rfl, hb⟩
             rw [sameC_self]
             have HB := hide (Below.then_ HB.out hb)
             have BX := hide (BX.out.below hb)
             clear hb)
          | (
             go_at_call_of 12 (Value.slice A n c)
             refine (own_turn rc A n c L _ (by omega) (H.out.below HB.out)).mono ?_
             rintro r w5 ⟨A5, n5, c5, rfl, hown, hb⟩
             obtain rfl : n = n5 := by rw [← (Rit.of_own hown).len, H.out.len]
             have RX := hide (Rit.of_own hown)
             have HB := hide (Below.then_ HB.out hb)
             have BX := hide (BX.out.below hb)
             clear hb hown)
          | (
             go_at_call_of 12 (Value.slice B m d)
             refine (own_turn rd B m d M _ (by omega) (H'.out.below HB.out)).mono ?_
             rintro r w7 ⟨A7, n7, c7, rfl, hown, hb⟩
             obtain rfl : m = n7 := by rw [← (Rit.of_own hown).len, H'.out.len]
             have RZ := hide (Rit.of_own hown)
             have RX := hide (RX.out.below hb)
             have HB := hide (Below.then_ HB.out hb)
             have BX := hide (BX.out.below hb)
             clear hb hown)
          | (
             go_at_call 11
             refine (check_any rc A5 n c5 L _ (by omega) RX.out).mono ?_
             rintro r w6 ⟨rfl, hb⟩
             rw [HCK.out]
             have HB := hide (Below.then_ HB.out hb)
             have BX := hide (BX.out.below hb)
             clear hb)
          | (
             go_at_call 13
             refine (rcheck_any rc A n c L _ (by omega) (H.out.below HB.out)).mono ?_
             rintro r w8 ⟨rfl, hb⟩
             rw [HCK.out]
             have HB := hide (Below.then_ HB.out hb)
             have BX := hide (BX.out.below hb)
             clear hb)
          | (
             go_at_call 14
             refine (same_any rc rd A5 n c5 L A7 m c7 M _ (by omega) RX.out RZ.out).mono ?_
             rintro r w9 ⟨rfl, hb⟩
             rw [HSS.out]
             have HB := hide (Below.then_ HB.out hb)
             have BX := hide (BX.out.below hb)
             clear hb)
          | (
             go_at_call 6
             refine (awake_any _).mono ?_
             rintro r w11 ⟨rfl, hb⟩
             have HB := hide (Below.then_ HB.out hb)
             have BX := hide (BX.out.below hb)
             clear hb))
      all_goals (
        go_wp2_with fail
        go_ret
        exact ⟨rfl, HB.out⟩)
end Go.Proofs.Ytiaahlkhpghnnaa
