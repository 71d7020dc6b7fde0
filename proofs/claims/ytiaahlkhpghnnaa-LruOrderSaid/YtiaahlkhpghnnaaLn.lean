/- The walk of the laws' do, for the calls of LruOrder. -/
import Derived.Test.YtiaahlkhpghnnaaLj
namespace Go.Proofs.Ytiaahlkhpghnnaa
open Go.RowKit Go.Instr

/-- A call: what kind, of which number, to which, dirty or not. -/
structure Ac where
  kind : UInt8
  id : Int
  tow : Int
  dirty : Bool
def acC (a : Ac) : List Value := [.int .u8 (a.kind.toNat : Int), .int .i64 a.id, .int .i64 a.tow, .bool a.dirty]
/-- What is left behind a call. -/
def DoCache (room : Int) (L' : List It) (w : World) (e : Ending) (w' : World) : Prop :=
  ∃ A n c err, e = .returned (.tuple #[.agg #[.int .i64 room, .slice A n c], .int .i64 err]) ∧ w'.ownsRow w.heap.size 47 3 (.slice A n c) n (its L') ∧ Below w.heap.size w w'
def doL (room : Int) (L : List It) (a : Ac) : List It :=
  if a.kind.toNat % 8 = 3 then (changeR pinD L a.id).1 else if a.kind.toNat % 8 = 4 then (changeR unpinD L a.id).1 else if a.kind.toNat % 8 = 5 then (changeR (markD a.dirty) L a.id).1 else touchL room L a.id
set_option maxHeartbeats 4000000 in
theorem do_pin (room : Int) (A : Option Addr) (n c : Nat) (L : List It) (a : Ac) (w : World) (hn : n ≤ 900) (h : Rit w A n L) (hk : a.kind.toNat % 8 = 3) :
    Calls Try.prog 15 #[.agg #[.int .i64 room, .slice A n c], .agg #[.int .u8 (a.kind.toNat : Int), .int .i64 a.id, .int .i64 a.tow, .bool a.dirty]] w (DoCache room ((changeR pinD L a.id).1) w) := by
  have e3 : ((a.kind.toNat : Int) % 8 == 3) = true := by rw [beq_iff_eq]; omega
  have hk2 := a.kind.toNat_lt
  obtain ⟨V1, V2, V3⟩ := boxes3 w 28 44 28 [.int .i64 room, .slice A n c] [.int .u8 (a.kind.toNat : Int), .int .i64 a.id, .int .i64 a.tow, .bool a.dirty] [.int .i64 0, .slice none 0 0]
  have B3 := hide V3
  have HB0 := hide (Below.al (Below.al (Below.al (Below.refl w.heap.size w) (.cells #[.int .i64 room, .slice A n c] 28)) (.cells #[.int .u8 (a.kind.toNat : Int), .int .i64 a.id, .int .i64 a.tow, .bool a.dirty] 44)) (.cells #[.int .i64 0, .slice none 0 0] 28))
  have CH := hide (Pin_any room A n c L a.id _ (by omega) (h.below HB0.out))
  unfold ChangePost at CH
  obtain ⟨R, hR⟩ : ∃ R, changeR pinD L a.id = R := ⟨_, rfl⟩
  rw [hR] at CH ⊢
  obtain ⟨M, E⟩ := R
  dsimp only at CH ⊢
  clear hR
  clear h V1 V2 V3
  go_enter Try.func15, Try.ntmps15
  go_wp2_with (
    go_at_call 21
    refine CH.out.mono ?_
    rintro r w1 ⟨A1, n1, c1, rfl, hown, hb1⟩
    have O1 := hide hown
    have V3' := hide (B3.out.below hb1 B3.out.lt)
    obtain ⟨t0, t1, s0, s1⟩ := V3'.out.two
    have HB1 := hide (Below.then_ HB0.out hb1)
    clear hown hb1)
  have Z := (V3'.out.set_ 0 (.int .i64 room)).set_ 1 (.slice A1 n1 c1)
  simp only [List.set_cons_zero, List.set_cons_succ] at Z
  obtain ⟨d0, d1, _⟩ := Z.two
  refine bodyPost_ret (v := .tuple #[.agg #[.int .i64 room, .slice A1 n1 c1], .int .i64 E]) (by simp [results, Try.results15, go_sem, d0, d1]) rfl ⟨A1, n1, c1, E, rfl, ?_, ?_⟩
  · exact own_far (own_far O1.out (by first | (simp; done) | (simp; omega)) (Nat.le_refl _) _) (by first | (simp; done) | (simp; omega)) (by first | (simp; done) | (simp; omega)) _
  · exact (HB1.out.setCell (by first | (simp; done) | (simp; omega)) _).setCell (by first | (simp; done) | (simp; omega)) _
set_option maxHeartbeats 4000000 in
theorem do_unpin (room : Int) (A : Option Addr) (n c : Nat) (L : List It) (a : Ac) (w : World) (hn : n ≤ 900) (h : Rit w A n L) (hk : a.kind.toNat % 8 = 4) :
    Calls Try.prog 15 #[.agg #[.int .i64 room, .slice A n c], .agg #[.int .u8 (a.kind.toNat : Int), .int .i64 a.id, .int .i64 a.tow, .bool a.dirty]] w (DoCache room ((changeR unpinD L a.id).1) w) := by
  have e3 : ((a.kind.toNat : Int) % 8 == 3) = false := by rw [beq_eq_false_iff_ne]; omega
  have e4 : ((a.kind.toNat : Int) % 8 == 4) = true := by rw [beq_iff_eq]; omega
  have hk2 := a.kind.toNat_lt
  obtain ⟨V1, V2, V3⟩ := boxes3 w 28 44 28 [.int .i64 room, .slice A n c] [.int .u8 (a.kind.toNat : Int), .int .i64 a.id, .int .i64 a.tow, .bool a.dirty] [.int .i64 0, .slice none 0 0]
  have B3 := hide V3
  have HB0 := hide (Below.al (Below.al (Below.al (Below.refl w.heap.size w) (.cells #[.int .i64 room, .slice A n c] 28)) (.cells #[.int .u8 (a.kind.toNat : Int), .int .i64 a.id, .int .i64 a.tow, .bool a.dirty] 44)) (.cells #[.int .i64 0, .slice none 0 0] 28))
  have CH := hide (Unpin_any room A n c L a.id _ (by omega) (h.below HB0.out))
  unfold ChangePost at CH
  obtain ⟨R, hR⟩ : ∃ R, changeR unpinD L a.id = R := ⟨_, rfl⟩
  rw [hR] at CH ⊢
  obtain ⟨M, E⟩ := R
  dsimp only at CH ⊢
  clear hR
  clear h V1 V2 V3
  go_enter Try.func15, Try.ntmps15
  go_wp2_with (
    go_at_call 22
    refine CH.out.mono ?_
    rintro r w1 ⟨A1, n1, c1, rfl, hown, hb1⟩
    have O1 := hide hown
    have V3' := hide (B3.out.below hb1 B3.out.lt)
    obtain ⟨t0, t1, s0, s1⟩ := V3'.out.two
    have HB1 := hide (Below.then_ HB0.out hb1)
    clear hown hb1)
  have Z := (V3'.out.set_ 0 (.int .i64 room)).set_ 1 (.slice A1 n1 c1)
  simp only [List.set_cons_zero, List.set_cons_succ] at Z
  obtain ⟨d0, d1, _⟩ := Z.two
  refine bodyPost_ret (v := .tuple #[.agg #[.int .i64 room, .slice A1 n1 c1], .int .i64 E]) (by simp [results, Try.results15, go_sem, d0, d1]) rfl ⟨A1, n1, c1, E, rfl, ?_, ?_⟩
  · exact own_far (own_far O1.out (by first | (simp; done) | (simp; omega)) (Nat.le_refl _) _) (by first | (simp; done) | (simp; omega)) (by first | (simp; done) | (simp; omega)) _
  · exact (HB1.out.setCell (by first | (simp; done) | (simp; omega)) _).setCell (by first | (simp; done) | (simp; omega)) _
set_option maxHeartbeats 4000000 in
theorem do_mark (room : Int) (A : Option Addr) (n c : Nat) (L : List It) (a : Ac) (w : World) (hn : n ≤ 900) (h : Rit w A n L) (hk : a.kind.toNat % 8 = 5) :
    Calls Try.prog 15 #[.agg #[.int .i64 room, .slice A n c], .agg #[.int .u8 (a.kind.toNat : Int), .int .i64 a.id, .int .i64 a.tow, .bool a.dirty]] w (DoCache room ((changeR (markD a.dirty) L a.id).1) w) := by
  have e3 : ((a.kind.toNat : Int) % 8 == 3) = false := by rw [beq_eq_false_iff_ne]; omega
  have e4 : ((a.kind.toNat : Int) % 8 == 4) = false := by rw [beq_eq_false_iff_ne]; omega
  have e5 : ((a.kind.toNat : Int) % 8 == 5) = true := by rw [beq_iff_eq]; omega
  have hk2 := a.kind.toNat_lt
  obtain ⟨V1, V2, V3⟩ := boxes3 w 28 44 28 [.int .i64 room, .slice A n c] [.int .u8 (a.kind.toNat : Int), .int .i64 a.id, .int .i64 a.tow, .bool a.dirty] [.int .i64 0, .slice none 0 0]
  have B3 := hide V3
  have HB0 := hide (Below.al (Below.al (Below.al (Below.refl w.heap.size w) (.cells #[.int .i64 room, .slice A n c] 28)) (.cells #[.int .u8 (a.kind.toNat : Int), .int .i64 a.id, .int .i64 a.tow, .bool a.dirty] 44)) (.cells #[.int .i64 0, .slice none 0 0] 28))
  have CH := hide (Mark_any room A n c L a.id a.dirty _ (by omega) (h.below HB0.out))
  unfold ChangePost at CH
  obtain ⟨R, hR⟩ : ∃ R, changeR (markD a.dirty) L a.id = R := ⟨_, rfl⟩
  rw [hR] at CH ⊢
  obtain ⟨M, E⟩ := R
  dsimp only at CH ⊢
  clear hR
  clear h V1 V2 V3
  go_enter Try.func15, Try.ntmps15
  go_wp2_with (
    go_at_call 23
    refine CH.out.mono ?_
    rintro r w1 ⟨A1, n1, c1, rfl, hown, hb1⟩
    have O1 := hide hown
    have V3' := hide (B3.out.below hb1 B3.out.lt)
    obtain ⟨t0, t1, s0, s1⟩ := V3'.out.two
    have HB1 := hide (Below.then_ HB0.out hb1)
    clear hown hb1)
  have Z := (V3'.out.set_ 0 (.int .i64 room)).set_ 1 (.slice A1 n1 c1)
  simp only [List.set_cons_zero, List.set_cons_succ] at Z
  obtain ⟨d0, d1, _⟩ := Z.two
  refine bodyPost_ret (v := .tuple #[.agg #[.int .i64 room, .slice A1 n1 c1], .int .i64 E]) (by simp [results, Try.results15, go_sem, d0, d1]) rfl ⟨A1, n1, c1, E, rfl, ?_, ?_⟩
  · exact own_far (own_far O1.out (by first | (simp; done) | (simp; omega)) (Nat.le_refl _) _) (by first | (simp; done) | (simp; omega)) (by first | (simp; done) | (simp; omega)) _
  · exact (HB1.out.setCell (by first | (simp; done) | (simp; omega)) _).setCell (by first | (simp; done) | (simp; omega)) _
set_option maxHeartbeats 4000000 in
theorem do_touch (room : Int) (A : Option Addr) (n c : Nat) (L : List It) (a : Ac) (w : World) (hn : n ≤ 900) (h : Rit w A n L) (hk : a.kind.toNat % 8 ≤ 2) :
    Calls Try.prog 15 #[.agg #[.int .i64 room, .slice A n c], .agg #[.int .u8 (a.kind.toNat : Int), .int .i64 a.id, .int .i64 a.tow, .bool a.dirty]] w (DoCache room (touchL room L a.id) w) := by
  have e3 : ((a.kind.toNat : Int) % 8 == 3) = false := by rw [beq_eq_false_iff_ne]; omega
  have e4 : ((a.kind.toNat : Int) % 8 == 4) = false := by rw [beq_eq_false_iff_ne]; omega
  have e5 : ((a.kind.toNat : Int) % 8 == 5) = false := by rw [beq_eq_false_iff_ne]; omega
  have e6 : ((a.kind.toNat : Int) % 8 == 6) = false := by rw [beq_eq_false_iff_ne]; omega
  have e7 : ((a.kind.toNat : Int) % 8 == 7) = false := by rw [beq_eq_false_iff_ne]; omega
  have hk2 := a.kind.toNat_lt
  obtain ⟨V1, V2, V3⟩ := boxes3 w 28 44 28 [.int .i64 room, .slice A n c] [.int .u8 (a.kind.toNat : Int), .int .i64 a.id, .int .i64 a.tow, .bool a.dirty] [.int .i64 0, .slice none 0 0]
  have B3 := hide V3
  have HB0 := hide (Below.al (Below.al (Below.al (Below.refl w.heap.size w) (.cells #[.int .i64 room, .slice A n c] 28)) (.cells #[.int .u8 (a.kind.toNat : Int), .int .i64 a.id, .int .i64 a.tow, .bool a.dirty] 44)) (.cells #[.int .i64 0, .slice none 0 0] 28))
  have CH := hide (touch_any room A n c L a.id _ hn (h.below HB0.out))
  unfold CachePost at CH
  obtain ⟨M, hM⟩ : ∃ M, touchL room L a.id = M := ⟨_, rfl⟩
  rw [hM] at CH ⊢
  clear hM
  clear h V1 V2 V3
  go_enter Try.func15, Try.ntmps15
  go_wp2_with (
    go_at_call 20
    refine CH.out.mono ?_
    rintro r w1 ⟨A1, n1, c1, rfl, hown, hb1⟩
    have O1 := hide hown
    have V3' := hide (B3.out.below hb1 B3.out.lt)
    obtain ⟨t0, t1, s0, s1⟩ := V3'.out.two
    have HB1 := hide (Below.then_ HB0.out hb1)
    clear hown hb1)
  have Z := (V3'.out.set_ 0 (.int .i64 room)).set_ 1 (.slice A1 n1 c1)
  simp only [List.set_cons_zero, List.set_cons_succ] at Z
  obtain ⟨d0, d1, _⟩ := Z.two
  refine bodyPost_ret (v := .tuple #[.agg #[.int .i64 room, .slice A1 n1 c1], .int .i64 0]) (by simp [results, Try.results15, go_sem, d0, d1]) rfl ⟨A1, n1, c1, 0, rfl, ?_, ?_⟩
  · exact own_far (own_far O1.out (by first | (simp; done) | (simp; omega)) (Nat.le_refl _) _) (by first | (simp; done) | (simp; omega)) (by first | (simp; done) | (simp; omega)) _
  · exact (HB1.out.setCell (by first | (simp; done) | (simp; omega)) _).setCell (by first | (simp; done) | (simp; omega)) _
theorem do_any (room : Int) (A : Option Addr) (n c : Nat) (L : List It) (a : Ac) (w : World) (hn : n ≤ 900) (h : Rit w A n L) (hk : a.kind.toNat % 8 ≤ 5) :
    Calls Try.prog 15 #[.agg #[.int .i64 room, .slice A n c], .agg #[.int .u8 (a.kind.toNat : Int), .int .i64 a.id, .int .i64 a.tow, .bool a.dirty]] w (DoCache room (doL room L a) w) := by
  unfold doL
  by_cases h3 : a.kind.toNat % 8 = 3
  · rw [if_pos h3]; exact do_pin room A n c L a w hn h h3
  · rw [if_neg h3]
    by_cases h4 : a.kind.toNat % 8 = 4
    · rw [if_pos h4]; exact do_unpin room A n c L a w hn h h4
    · rw [if_neg h4]
      by_cases h5 : a.kind.toNat % 8 = 5
      · rw [if_pos h5]; exact do_mark room A n c L a w hn h h5
      · rw [if_neg h5]; exact do_touch room A n c L a w hn h (by omega)
end Go.Proofs.Ytiaahlkhpghnnaa
