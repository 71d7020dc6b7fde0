/- The walks of Mark, Rename, Drop. -/
import Derived.Test.YtiaahlkhpghnnaaLi
namespace Go.Proofs.Ytiaahlkhpghnnaa
open Go.RowKit Go.Instr

theorem Vk.one {w : World} {g : Nat} {e : TypeId} {x : Value} (h : Vk w g e [x]) : w.cell? ⟨g, 0, none⟩ = some x := h.cell 0
set_option maxHeartbeats 2000000 in
theorem Mark_any (room : Int) (A : Option Addr) (n c : Nat) (L : List It) (id : Int) (d : Bool) (w : World) (hn : n ≤ 1000) (h : Rit w A n L) : Calls Try.prog 23 #[.agg #[.int .i64 room, .slice A n c], .int .i64 id, .bool d] w (ChangePost room (changeR (markD d) L id) w) := by
  obtain ⟨_, V2, V3⟩ := boxes3 w 28 4 28 [.int .i64 room, .slice A n c] [.bool d] [.int .i64 0, .slice none 0 0]
  have B3 := hide V3
  have HB0 := hide (Below.al (Below.al (Below.al (Below.refl w.heap.size w) (.cells #[.int .i64 room, .slice A n c] 28)) (.cells #[.bool d] 4)) (.cells #[.int .i64 0, .slice none 0 0] 28))
  have CH := hide (mark_ch room A n c L id ⟨w.heap.size + 1, 0, none⟩ d _ hn (h.below HB0.out) V2.one)
  unfold ChangePost at CH
  obtain ⟨R, hR⟩ : ∃ R, changeR (markD d) L id = R := ⟨_, rfl⟩
  rw [hR] at CH ⊢
  obtain ⟨M, E⟩ := R
  dsimp only at CH
  clear h V2 V3 hR
  go_enter Try.func23, Try.ntmps23
  go_wp2_with (
    go_at_call 33
    refine CH.out.mono ?_
    rintro r w1 ⟨A1, n1, c1, rfl, hown, hb1⟩
    have O1 := hide hown
    have V3' := hide (B3.out.below hb1 B3.out.lt)
    obtain ⟨t0, t1, s0, s1⟩ := V3'.out.two
    have HB1 := hide (Below.then_ HB0.out hb1)
    clear hown hb1)
  have Z := (V3'.out.set_ 0 (.int .i64 room)).set_ 1 (.slice A1 n1 c1)
  simp only [List.set_cons_zero, List.set_cons_succ] at Z
  obtain ⟨d0, d1, _⟩ := Z.two
  refine bodyPost_ret (v := .tuple #[.agg #[.int .i64 room, .slice A1 n1 c1], .int .i64 E]) (by simp [results, Try.results23, go_sem, d0, d1]) rfl ⟨A1, n1, c1, rfl, ?_, ?_⟩
  · exact own_far (own_far O1.out (by first | (simp; done) | (simp; omega)) (Nat.le_refl _) _) (by first | (simp; done) | (simp; omega)) (by first | (simp; done) | (simp; omega)) _
  · exact (HB1.out.setCell (by first | (simp; done) | (simp; omega)) _).setCell (by first | (simp; done) | (simp; omega)) _
def otherB (L : List It) (id tow : Int) : Bool := decide (tow ≠ id) && decide (0 ≤ place L tow)
def renameR (L : List It) (id tow : Int) : List It × Int := changeR (renD (otherB L id tow) tow) L id
set_option maxHeartbeats 4000000 in
theorem Rename_any (room : Int) (A : Option Addr) (n c : Nat) (L : List It) (id tow : Int) (w : World) (hn : n ≤ 1000) (h : Rit w A n L) : Calls Try.prog 24 #[.agg #[.int .i64 room, .slice A n c], .int .i64 id, .int .i64 tow] w (ChangePost room (renameR L id tow) w) := by
  have H := hide h
  obtain ⟨V1, V2, V3⟩ := boxes3 w 28 3 28 [.int .i64 room, .slice A n c] [.int .i64 tow] [.int .i64 0, .slice none 0 0]
  have B1 := hide V1
  have B2 := hide V2
  have B3 := hide V3
  have HB0 := hide (Below.al (Below.al (Below.al (Below.refl w.heap.size w) (.cells #[.int .i64 room, .slice A n c] 28)) (.cells #[.int .i64 tow] 3)) (.cells #[.int .i64 0, .slice none 0 0] 28))
  have CH := hide (fun w h p q other hp hq => ren_ch room A n c L id p q other tow w hn h hp hq)
  unfold ChangePost at CH
  obtain ⟨O, hO⟩ : ∃ O, otherB L id tow = O := ⟨_, rfl⟩
  obtain ⟨R, hR⟩ : ∃ R, changeR (renD O tow) L id = R := ⟨_, rfl⟩
  unfold renameR
  rw [hO, hR]
  have HR := hide hR
  obtain ⟨M, E⟩ := R
  have HO := hide hO
  by_cases hti : tow = id
  · have dt : (tow != id) = false := by simp [hti]
    have hO2 : O = false := by rw [← hO]; simp [otherB, hti]
    subst hO2
    have al1 := al_cell B1.out.two.1
    have al2 := al_cell B1.out.two.2.1
    have al3 := al_cell B2.out.one
    clear h V1 V2 V3 hR hO hti
    go_enter Try.func24, Try.ntmps24
    go_wp2_with (
      go_at_call 33
      have CC := CH.out _ (H.out.below (Below.al HB0.out (.cells #[.bool false] 4))) ⟨w.heap.size + 3, 0, none⟩ ⟨w.heap.size + 1, 0, none⟩ false (by
        have := (Vk.new (((w.alloc (.cells #[.int .i64 room, .slice A n c] 28)).alloc (.cells #[.int .i64 tow] 3)).alloc (.cells #[.int .i64 0, .slice none 0 0] 28)) 4 [.bool false]).one
        simpa using this) (B2.out.alloc _).one
      rw [HR.out] at CC
      dsimp only at CC
      refine CC.mono ?_
      rintro r w1 ⟨A1, n1, c1, rfl, hown, hb1⟩
      have O1 := hide hown
      have V3' := hide ((B3.out.alloc _).below hb1 (B3.out.alloc _).lt)
      obtain ⟨t0, t1, s0, s1⟩ := V3'.out.two
      have HB1 := hide (Below.then_ (Below.al HB0.out _) hb1)
      clear hown hb1 CC)
    have Z := (V3'.out.set_ 0 (.int .i64 room)).set_ 1 (.slice A1 n1 c1)
    simp only [List.set_cons_zero, List.set_cons_succ] at Z
    obtain ⟨d0, d1, _⟩ := Z.two
    refine bodyPost_ret (v := .tuple #[.agg #[.int .i64 room, .slice A1 n1 c1], .int .i64 E]) (by simp [results, Try.results24, go_sem, d0, d1]) rfl ⟨A1, n1, c1, rfl, ?_, ?_⟩
    · exact own_far (own_far O1.out (by first | (simp; done) | (simp; omega)) (Nat.le_refl _) _) (by first | (simp; done) | (simp; omega)) (by first | (simp; done) | (simp; omega)) _
    · exact (HB1.out.setCell (by first | (simp; done) | (simp; omega)) _).setCell (by first | (simp; done) | (simp; omega)) _
  · have dt : (tow != id) = true := by simp [hti]
    have hO2 : O = decide (0 ≤ place L tow) := by rw [← hO]; simp [otherB, hti]
    have PL := hide (place_any room A n c L tow _ (by omega) (h.below HB0.out))
    obtain ⟨I, hI⟩ : ∃ I, place L tow = I := ⟨_, rfl⟩
    rw [hI] at PL hO2
    subst hO2
    clear h V1 V2 V3 hR hO hti hI
    go_enter Try.func24, Try.ntmps24
    go_wp2_with (first
      | (
         go_at_call 31
         refine PL.out.mono ?_
         rintro r w5 ⟨rfl, hb5⟩
         have V1' := hide (B1.out.below hb5 B1.out.lt)
         have V2' := hide (B2.out.below hb5 B2.out.lt)
         have V3p := hide (B3.out.below hb5 B3.out.lt)
         obtain ⟨x0, x1, _, _⟩ := V1'.out.two
         have al1 := al_cell x0
         have al2 := al_cell x1
         have HB5 := hide (Below.then_ HB0.out hb5)
         have hsz := hide (show w.heap.size + 3 ≤ w5.heap.size by have := hb5.size; simpa using this)
         clear hb5)
      | (
         go_at_call 33
         have CC := CH.out _ (H.out.below (Below.al HB5.out (.cells #[.bool (decide (0 ≤ I))] 4))) ⟨w5.heap.size, 0, none⟩ ⟨w.heap.size + 1, 0, none⟩ (decide (0 ≤ I)) (Vk.new w5 4 [.bool (decide (0 ≤ I))]).one (V2'.out.alloc _).one
         rw [HR.out] at CC
         dsimp only at CC
         refine CC.mono ?_
         rintro r w1 ⟨A1, n1, c1, rfl, hown, hb1⟩
         have O1 := hide hown
         have V3' := hide ((V3p.out.alloc _).below hb1 (V3p.out.alloc _).lt)
         obtain ⟨t0, t1, s0, s1⟩ := V3'.out.two
         have HB1 := hide (Below.then_ (Below.al HB5.out _) hb1)
         clear hown hb1 CC))
    have Z := (V3'.out.set_ 0 (.int .i64 room)).set_ 1 (.slice A1 n1 c1)
    simp only [List.set_cons_zero, List.set_cons_succ] at Z
    obtain ⟨d0, d1, _⟩ := Z.two
    have hs := hsz.out
    refine bodyPost_ret (v := .tuple #[.agg #[.int .i64 room, .slice A1 n1 c1], .int .i64 E]) (by simp [results, Try.results24, go_sem, d0, d1]) rfl ⟨A1, n1, c1, rfl, ?_, ?_⟩
    · exact own_far (own_far O1.out (by first | (simp; done) | (simp; omega)) (Nat.le_refl _) _) (by first | (simp; done) | (simp; omega)) (by first | (simp; done) | (simp; omega)) _
    · exact (HB1.out.setCell (by first | (simp; done) | (simp; omega)) _).setCell (by first | (simp; done) | (simp; omega)) _
set_option maxHeartbeats 4000000 in
theorem drop_none (room : Int) (A : Option Addr) (n c : Nat) (L : List It) (id : Int) (w : World) (hn : n ≤ 1000) (h : Rit w A n L) (hp : place L id = -1) :
    Calls Try.prog 18 #[.agg #[.int .i64 room, .slice A n c], .int .i64 id] w (ChangePost room (L, 6) w) := by
  have H := hide h
  have HL := hide h.len
  obtain ⟨V1, V2⟩ := boxes2 w 28 28 [.int .i64 room, .slice A n c] [.int .i64 0, .slice none 0 0]
  have B1 := hide V1
  have B2 := hide V2
  have HB0 := hide (Below.al (Below.al (Below.refl w.heap.size w) (.cells #[.int .i64 room, .slice A n c] 28)) (.cells #[.int .i64 0, .slice none 0 0] 28))
  have OW := hide (own_any room A n c L _ (by omega) (H.out.below HB0.out))
  unfold CachePost at OW
  have HP := hide hp
  clear h V1 V2 hp
  go_enter Try.func18, Try.ntmps18
  go_wp2_with (first
    | (
       go_at_call 30
       refine OW.out.mono ?_
       rintro r w1 ⟨A1, n1, c1, rfl, hown, hb1⟩
       obtain rfl : n1 = n := by have := hown.1; rw [its_length, HL.out] at this; omega
       have O1 := hide hown
       have V2' := hide (B2.out.below hb1 B2.out.lt)
       have HB1 := hide (Below.then_ HB0.out hb1)
       have hsz := hide (show w.heap.size + 2 ≤ w1.heap.size by have := hb1.size; simpa using this)
       have V5 := hide (Vk.new w1 28 [.int .i64 room, .slice A1 n1 c1])
       clear hown hb1)
    | (
       go_at_call 31
       refine (place_any room A1 n1 c1 L id _ (by omega) (Rit.of_own (O1.out.alloc _))).mono ?_
       rintro r w2 ⟨rfl, hb2⟩
       rw [HP.out]
       have V2f := hide ((V2'.out.alloc _).below hb2 (V2'.out.alloc _).lt)
       have V5f := hide (V5.out.below hb2 V5.out.lt)
       have HB2 := hide (Below.then_ (Below.al HB1.out _) hb2)
       have hsz2 := hide (show w1.heap.size + 1 ≤ w2.heap.size by have := hb2.size; simpa using this)
       have O2 := hide (own_below (O1.out.alloc (.cells #[.int .i64 room, .slice A1 n1 c1] 28)) hb2)
       obtain ⟨p0, p1, q0, q1⟩ := V5f.out.two
       obtain ⟨t0, t1, s0, s1⟩ := V2f.out.two
       clear hb2))
  have Z := (V2f.out.set_ 0 (.int .i64 room)).set_ 1 (.slice A1 n1 c1)
  simp only [List.set_cons_zero, List.set_cons_succ] at Z
  obtain ⟨d0, d1, _⟩ := Z.two
  refine bodyPost_ret (v := .tuple #[.agg #[.int .i64 room, .slice A1 n1 c1], .int .i64 6]) (by simp [results, Try.results18, go_sem, d0, d1]) rfl ⟨A1, n1, c1, rfl, ?_, ?_⟩
  · exact own_far (own_far O2.out (by first | (simp; done) | (simp; omega)) (Nat.le_refl _) _) (by first | (simp; done) | (simp; omega)) (by first | (simp; done) | (simp; omega)) _
  · exact (HB2.out.setCell (by first | (simp; done) | (simp; omega)) _).setCell (by first | (simp; done) | (simp; omega)) _
set_option maxHeartbeats 4000000 in
theorem drop_held (room : Int) (A : Option Addr) (n c : Nat) (L : List It) (id : Int) (i : Nat) (w : World) (hn : n ≤ 1000) (h : Rit w A n L) (hp : place L id = i) (hi : i < n) (hpin : 0 < (nthI L i).pins) :
    Calls Try.prog 18 #[.agg #[.int .i64 room, .slice A n c], .int .i64 id] w (ChangePost room (L, 14) w) := by
  have hiN : (i : Int) < (n : Int) := by omega
  have hi0 : (0 : Int) ≤ (i : Int) := by omega
  obtain ⟨T, hT⟩ : ∃ T, nthI L i = T := ⟨_, rfl⟩
  have HT := hide hT
  rw [hT] at hpin
  have H := hide h
  have HL := hide h.len
  obtain ⟨V1, V2⟩ := boxes2 w 28 28 [.int .i64 room, .slice A n c] [.int .i64 0, .slice none 0 0]
  have B1 := hide V1
  have B2 := hide V2
  have HB0 := hide (Below.al (Below.al (Below.refl w.heap.size w) (.cells #[.int .i64 room, .slice A n c] 28)) (.cells #[.int .i64 0, .slice none 0 0] 28))
  have OW := hide (own_any room A n c L _ (by omega) (H.out.below HB0.out))
  unfold CachePost at OW
  have HP := hide hp
  clear h V1 V2 hp
  clear hT
  go_enter Try.func18, Try.ntmps18
  go_wp2_with (first
    | (
       go_at_call 30
       refine OW.out.mono ?_
       rintro r w1 ⟨A1, n1, c1, rfl, hown, hb1⟩
       obtain rfl : n1 = n := by have := hown.1; rw [its_length, HL.out] at this; omega
       obtain ⟨g, cap, hv, hg0, hg1⟩ := hown.form (by omega)
       cases hv
       have GL := hide (And.intro hg0 hg1)
       clear hg0 hg1
       have O1 := hide hown
       have V2' := hide (B2.out.below hb1 B2.out.lt)
       have HB1 := hide (Below.then_ HB0.out hb1)
       have hsz := hide (show w.heap.size + 2 ≤ w1.heap.size by have := hb1.size; simpa using this)
       have V5 := hide (Vk.new w1 28 [.int .i64 room, .slice (some ⟨g, 0, none⟩) n1 c1])
       clear hown hb1)
    | (
       go_at_call 31
       refine (place_any room (some ⟨g, 0, none⟩) n1 c1 L id _ (by omega) (Rit.of_own (O1.out.alloc _))).mono ?_
       rintro r w2 ⟨rfl, hb2⟩
       rw [HP.out]
       have V2f := hide ((V2'.out.alloc _).below hb2 (V2'.out.alloc _).lt)
       have V5f := hide (V5.out.below hb2 V5.out.lt)
       have HB2 := hide (Below.then_ (Below.al HB1.out _) hb2)
       have hsz2 := hide (show w1.heap.size + 1 ≤ w2.heap.size by have := hb2.size; simpa using this)
       have O2 := hide (own_below (O1.out.alloc (.cells #[.int .i64 room, .slice (some ⟨g, 0, none⟩) n1 c1] 28)) hb2)
       obtain ⟨p0, p1, q0, q1⟩ := V5f.out.two
       obtain ⟨t0, t1, s0, s1⟩ := V2f.out.two
       obtain ⟨_, i0, i1, i2⟩ := (Rit.of_own O2.out).cells (k := i) (by omega)
       rw [HT.out, Nat.zero_add] at i0 i1 i2
       clear hb2))
  have Z := (V2f.out.set_ 0 (.int .i64 room)).set_ 1 (.slice (some ⟨g, 0, none⟩) n1 c1)
  simp only [List.set_cons_zero, List.set_cons_succ] at Z
  obtain ⟨d0, d1, _⟩ := Z.two
  refine bodyPost_ret (v := .tuple #[.agg #[.int .i64 room, .slice (some ⟨g, 0, none⟩) n1 c1], .int .i64 14]) (by simp [results, Try.results18, go_sem, d0, d1]) rfl ⟨(some ⟨g, 0, none⟩), n1, c1, rfl, ?_, ?_⟩
  · exact own_far (own_far O2.out (by first | (simp; done) | (simp; omega)) (Nat.le_refl _) _) (by first | (simp; done) | (simp; omega)) (by first | (simp; done) | (simp; omega)) _
  · exact (HB2.out.setCell (by first | (simp; done) | (simp; omega)) _).setCell (by first | (simp; done) | (simp; omega)) _
set_option maxHeartbeats 4000000 in
theorem drop_gone (room : Int) (A : Option Addr) (n c : Nat) (L : List It) (id : Int) (i : Nat) (w : World) (hn : n ≤ 1000) (h : Rit w A n L) (hp : place L id = i) (hi : i < n) (hpin : ¬ 0 < (nthI L i).pins) :
    Calls Try.prog 18 #[.agg #[.int .i64 room, .slice A n c], .int .i64 id] w (ChangePost room (L.eraseIdx i, 0) w) := by
  obtain ⟨m, rfl⟩ : ∃ m, n = m + 1 := ⟨n - 1, by omega⟩
  have him : i ≤ m := by omega
  have hiN : (i : Int) < ((m + 1 : Nat) : Int) := by omega
  have hi0 : (0 : Int) ≤ (i : Int) := by omega
  obtain ⟨T, hT⟩ : ∃ T, nthI L i = T := ⟨_, rfl⟩
  have HT := hide hT
  rw [hT] at hpin
  have H := hide h
  have HL := hide h.len
  obtain ⟨V1, V2⟩ := boxes2 w 28 28 [.int .i64 room, .slice A (m + 1) c] [.int .i64 0, .slice none 0 0]
  have B1 := hide V1
  have B2 := hide V2
  have HB0 := hide (Below.al (Below.al (Below.refl w.heap.size w) (.cells #[.int .i64 room, .slice A (m + 1) c] 28)) (.cells #[.int .i64 0, .slice none 0 0] 28))
  have OW := hide (own_any room A (m + 1) c L _ (by omega) (H.out.below HB0.out))
  unfold CachePost at OW
  have HP := hide hp
  clear h V1 V2 hp
  clear hT
  go_enter Try.func18, Try.ntmps18
  go_wp2_with (first
    | (
       go_at_call 30
       refine OW.out.mono ?_
       rintro r w1 ⟨A1, n1, c1, rfl, hown, hb1⟩
       obtain rfl : n1 = m + 1 := by have := hown.1; rw [its_length, HL.out] at this; omega
       obtain ⟨g, cap, hv, hg0, hg1⟩ := hown.form (by omega)
       cases hv
       have GL := hide (And.intro hg0 hg1)
       clear hg0 hg1
       have O1 := hide hown
       have V2' := hide (B2.out.below hb1 B2.out.lt)
       have HB1 := hide (Below.then_ HB0.out hb1)
       have hsz := hide (show w.heap.size + 2 ≤ w1.heap.size by have := hb1.size; simpa using this)
       have V5 := hide (Vk.new w1 28 [.int .i64 room, .slice (some ⟨g, 0, none⟩) (m + 1) c1])
       clear hown hb1)
    | (
       go_at_call 31
       refine (place_any room (some ⟨g, 0, none⟩) (m + 1) c1 L id _ (by omega) (Rit.of_own (O1.out.alloc _))).mono ?_
       rintro r w2 ⟨rfl, hb2⟩
       rw [HP.out]
       have V2f := hide ((V2'.out.alloc _).below hb2 (V2'.out.alloc _).lt)
       have V5f := hide (V5.out.below hb2 V5.out.lt)
       have HB2 := hide (Below.then_ (Below.al HB1.out _) hb2)
       have hsz2 := hide (show w1.heap.size + 1 ≤ w2.heap.size by have := hb2.size; simpa using this)
       have O2 := hide (own_below (O1.out.alloc (.cells #[.int .i64 room, .slice (some ⟨g, 0, none⟩) (m + 1) c1] 28)) hb2)
       obtain ⟨p0, p1, q0, q1⟩ := V5f.out.two
       obtain ⟨t0, t1, s0, s1⟩ := V2f.out.two
       obtain ⟨_, i0, i1, i2⟩ := (Rit.of_own O2.out).cells (k := i) (by omega)
       rw [HT.out, Nat.zero_add] at i0 i1 i2
       clear hb2)
    | (
       go_at_call 32
       refine (delete_any _ g m c1 i L _ (by omega) him O2.out).mono ?_
       rintro r w3 ⟨rfl, hown3, hgr3⟩
       have gl := GL.out
       have hs1 := hsz.out
       simp at gl
       have Q2 := hide (V2f.out.grown hgr3 (fun e => by injection e with e; omega))
       have Q5 := hide (V5f.out.grown hgr3 (fun e => by injection e with e; omega))
       have HB3 := hide (HB2.out.grown hgr3 HB2.out.size (fun j hj => by obtain rfl : g = j := (by injection hj); omega))
       have O3 := hide hown3
       obtain ⟨h50, h51, k50, k51⟩ := Q5.out.two
       obtain ⟨h20, h21, k20, k21⟩ := Q2.out.two
       have ne5 : ¬ w1.heap.size = w.heap.size + 1 := by omega
       have ne6 : ¬ w.heap.size + 1 = w1.heap.size := by omega
       have GW := hide (show g ≠ w1.heap.size by omega)
       clear hown3 hgr3 gl hs1 p0 p1 q0 q1 t0 t1 s0 s1 i0 i1 i2))
  have Z := ((Q2.out.far (p := ⟨w1.heap.size, 1, none⟩) (by simp; omega) (.slice (some ⟨g, 0, none⟩) m c1)).set_ 0 (.int .i64 room)).set_ 1 (.slice (some ⟨g, 0, none⟩) m c1)
  simp only [List.set_cons_zero, List.set_cons_succ] at Z
  obtain ⟨d0, d1, _⟩ := Z.two
  refine bodyPost_ret (v := .tuple #[.agg #[.int .i64 room, .slice (some ⟨g, 0, none⟩) m c1], .int .i64 0]) (by simp [results, Try.results18, go_sem, d0, d1]) rfl ⟨some ⟨g, 0, none⟩, m, c1, rfl, ?_, ?_⟩
  · have hg : ∀ b, (Value.slice (some ⟨g, 0, none⟩) m c1).ownBlock = some b → b = g := fun b hb => by injection hb with hb; exact hb.symm
    have gl := GL.out
    simp at gl
    exact own_mono (own_off (own_off (own_off O3.out (fun b hb => by rw [hg b hb]; exact GW.out) _) (fun b hb => by rw [hg b hb]; simp; omega) _) (fun b hb => by rw [hg b hb]; simp; omega) _) (by first | (simp; done) | (simp; omega))
  · have hs := hsz.out
    exact ((HB3.out.setCell (by simp; omega) _).setCell (by first | (simp; done) | (simp; omega)) _).setCell (by first | (simp; done) | (simp; omega)) _
/-- What a drop leaves, and why not. -/
def dropR (L : List It) (id : Int) : List It × Int :=
  if place L id < 0 then (L, 6) else if 0 < (nthI L (place L id).toNat).pins then (L, 14) else (L.eraseIdx (place L id).toNat, 0)
theorem Drop_any (room : Int) (A : Option Addr) (n c : Nat) (L : List It) (id : Int) (w : World) (hn : n ≤ 1000) (h : Rit w A n L) :
    Calls Try.prog 18 #[.agg #[.int .i64 room, .slice A n c], .int .i64 id] w (ChangePost room (dropR L id) w) := by
  have hr := idxV_range (fun t => t.id == id) L
  have hl := h.len
  unfold dropR
  by_cases hp : place L id < 0
  · rw [if_pos hp]
    exact drop_none room A n c L id w hn h (by have := hr.1; unfold place at hp ⊢; omega)
  · rw [if_neg hp]
    have e1 : place L id = ((place L id).toNat : Int) := by omega
    have e2 : (place L id).toNat < n := by have := hr.2; unfold place at hp ⊢; omega
    by_cases hq : 0 < (nthI L (place L id).toNat).pins
    · rw [if_pos hq]
      exact drop_held room A n c L id _ w hn h e1 e2 hq
    · rw [if_neg hq]
      exact drop_gone room A n c L id _ w hn h e1 e2 hq
end Go.Proofs.Ytiaahlkhpghnnaa
