/- The walk of the laws' own check 'awake'. -/
import Derived.Test.YtiaahlkhpghnnaaLj
namespace Go.Proofs.Ytiaahlkhpghnnaa
open Go.RowKit Go.Instr

/-- Blocks that hold just these cells. -/
def Bx (w : World) (l : List (Nat × TypeId × List Value)) : Prop := ∀ x ∈ l, Vk w x.1 x.2.1 x.2.2
theorem Bx.nil (w : World) : Bx w [] := fun _ h => by simp at h
theorem Bx.below {w w' : World} {l : List (Nat × TypeId × List Value)} (h : Bx w l) (hb : Below w.heap.size w w') : Bx w' l := fun x hx => (h x hx).below hb (h x hx).lt
theorem Bx.alloc {w : World} {l : List (Nat × TypeId × List Value)} (h : Bx w l) (o : Obj) : Bx (w.alloc o) l := fun x hx => (h x hx).alloc o
theorem Bx.add {w : World} {l : List (Nat × TypeId × List Value)} (h : Bx w l) (t : TypeId) (xs : List Value) : Bx (w.alloc (.cells xs.toArray t)) ((w.heap.size, t, xs) :: l) := fun x hx => by
  rcases List.mem_cons.1 hx with rfl | hx
  · exact Vk.new w t xs
  · exact (h x hx).alloc _
def xs4 (k : Nat) : Int := ([1, 2, 3, 1] : List Int).getD k 0
/-- What stands behind so many touches. -/
def LK : Nat → List It
  | 0 => []
  | k + 1 => touchL 2 (LK k) (xs4 k)
def L4 : List It := [⟨2, 0, false⟩, ⟨3, 0, false⟩, ⟨1, 0, false⟩]
def L4p : List It := [⟨2, 1, false⟩, ⟨3, 0, false⟩, ⟨1, 0, false⟩]
def L4r : List It := [⟨2, 0, false⟩, ⟨7, 0, false⟩, ⟨1, 0, false⟩]
theorem lk4 : LK 4 = L4 := by decide +kernel
theorem aw_new : newV 2 = .tuple #[.agg #[.int .i64 2, .slice none 0 0], .int .i64 0] := by
  have : newC 2 = (2, 0) := by decide +kernel
  unfold newV
  rw [this]
theorem aw_v1 : victV (vict 2 L4) = .tuple #[.agg #[.int .i64 2, .int .i64 0, .bool false], .bool true] := by
  have : vict 2 L4 = some ⟨2, 0, false⟩ := by decide +kernel
  rw [this]; rfl
theorem aw_v2 : victV (vict 2 L4p) = .tuple #[.agg #[.int .i64 3, .int .i64 0, .bool false], .bool true] := by
  have : vict 2 L4p = some ⟨3, 0, false⟩ := by decide +kernel
  rw [this]; rfl
theorem aw_pin : changeR pinD L4 2 = (L4p, 0) := by decide +kernel
theorem aw_unpin : changeR unpinD L4 2 = (L4, 14) := by decide +kernel
theorem aw_mark : changeR (markD true) L4 9 = (L4, 6) := by decide +kernel
theorem aw_ren : renameR L4 3 7 = (L4r, 0) := by decide +kernel
theorem aw_drop : dropR L4p 2 = (L4p, 14) := by decide +kernel
theorem aw_over : overI 2 3 = 1 := by decide +kernel
theorem aw_same : sameC 2 2 L4 L4p = false := by decide +kernel
theorem aw_check : checkC 2 L4 = 0 := by decide +kernel
-- the walk
theorem Rit.al {w : World} {A : Option Addr} {n : Nat} {L : List It} (h : Rit w A n L) (o : Obj) : Rit (w.alloc o) A n L := Rd.alloc h o
theorem pay {room : Int} {M : List It} {E : Int} {w : World} {e : Ending} {w' : World} (h : ChangePost room (M, E) w e w') : ∃ A n c, e = .returned (.tuple #[.agg #[.int .i64 room, .slice A n c], .int .i64 E]) ∧ Rit w' A n M ∧ n ≤ c ∧ Below w.heap.size w w' := by
  obtain ⟨A, n, c, h1, h2, h3⟩ := h
  exact ⟨A, n, c, h1, Rit.of_own h2, (own_cap3 h2).1, h3⟩
theorem lk_len : ∀ k, k ≤ 4 → (LK k).length ≤ 4 := by
  have : ∀ k : Fin 5, (LK k).length ≤ 4 := by decide +kernel
  exact fun k hk => this ⟨k, by omega⟩
set_option maxRecDepth 20000 in
set_option maxHeartbeats 16000000 in
theorem awake_any (w : World) : Calls Try.prog 6 #[] w fun e w' => e = .returned (.bool true) ∧ Below w.heap.size w w' := by
  have NW := hide (new_any 2)
  rw [aw_new] at NW
  have TC := hide (fun k w A n c (hn : n ≤ 900) (h : Rit w A n (LK k)) => touch_any 2 A n c (LK k) (xs4 k) w hn h)
  have V1 := hide (fun w A n c (hn : n ≤ 1000) (h : Rit w A n L4) => victim_any 2 A n c L4 w hn ⟨by omega, by omega⟩ h)
  rw [aw_v1] at V1
  have V2 := hide (fun w A n c (hn : n ≤ 1000) (h : Rit w A n L4p) => victim_any 2 A n c L4p w hn ⟨by omega, by omega⟩ h)
  rw [aw_v2] at V2
  have PN := hide (fun w A n c (hn : n ≤ 1000) (h : Rit w A n L4) => (Pin_any 2 A n c L4 2 w hn h).mono (fun _ _ x => by rw [aw_pin] at x; exact pay x))
  have UP := hide (fun w A n c (hn : n ≤ 1000) (h : Rit w A n L4) => (Unpin_any 2 A n c L4 2 w hn h).mono (fun _ _ x => by rw [aw_unpin] at x; exact pay x))
  have MK := hide (fun w A n c (hn : n ≤ 1000) (h : Rit w A n L4) => (Mark_any 2 A n c L4 9 true w hn h).mono (fun _ _ x => by rw [aw_mark] at x; exact pay x))
  have RN := hide (fun w A n c (hn : n ≤ 1000) (h : Rit w A n L4) => (Rename_any 2 A n c L4 3 7 w hn h).mono (fun _ _ x => by rw [aw_ren] at x; exact pay x))
  have DR := hide (fun w A n c (hn : n ≤ 1000) (h : Rit w A n L4p) => (Drop_any 2 A n c L4p 2 w hn h).mono (fun _ _ x => by rw [aw_drop] at x; exact pay x))
  have OV := hide (fun w A c => over_any 2 A 3 c w (by omega) ⟨by omega, by omega⟩)
  rw [aw_over] at OV
  have SM := hide (fun w A n c B m d hn h h' => same_any 2 2 A n c L4 B m d L4p w hn h h')
  rw [aw_same] at SM
  have CK := hide (fun w A n c hn h => check_any 2 A n c L4 w hn h)
  rw [aw_check] at CK
  go_enter Try.func6, Try.ntmps6
  go_wp2_with (
    go_at_call 7
    refine (NW.out w).mono ?_
    rintro r wa ⟨rfl, hba⟩
    have HBA := hide hba
    have BXA := hide (((Bx.nil wa).add 28 [.int .i64 2, .slice none 0 0]).add 3 [.int .i64 1, .int .i64 2, .int .i64 3, .int .i64 1])
    clear hba)
  go_loopw [4, 25] (fun _ i wr => ∃ (k n c : Nat) (A : Option Addr), k ≤ 4 ∧ i = .int .i64 k ∧ Vk wr wa.heap.size 28 [.int .i64 2, .slice A n c] ∧ Vk wr (wa.heap.size + 1) 3 [.int .i64 1, .int .i64 2, .int .i64 3, .int .i64 1] ∧ Rit wr A n (LK k) ∧ (∀ a, A = some a → a.block ≠ wa.heap.size ∧ a.block ≠ wa.heap.size + 1) ∧ Below w.heap.size w wr) (fun _ i _ => 4 - (intOf i).toNat)
  case atStart =>
    exact ⟨0, 0, 0, none, by omega, rfl, BXA.out (wa.heap.size, 28, _) (by simp), BXA.out (wa.heap.size + 1, 3, _) (by simp), Rit.none_ _ _, (fun a h => by cases h), Below.al (Below.al HBA.out _) _⟩
  case round =>
    obtain ⟨k, n, c, A, hk, rfl, hv1, hv2, hr, hne, hbr⟩ := hrel
    have B1 := hide hv1
    have B2 := hide hv2
    have RK := hide hr
    have HB0 := hide hbr
    have HNE := hide hne
    have hlk := hr.len
    obtain ⟨c0, c1, _, _⟩ := hv1.two
    clear hv1 hv2 hbr
    by_cases hlt : k < 4
    · have hn : n ≤ 900 := by rw [← hlk]; exact Nat.le_trans (lk_len k (by omega)) (by omega)
      have hq : wr.cell? ⟨wa.heap.size + 1, k, none⟩ = some (.int .i64 (xs4 k)) := by
        rw [B2.out.cell k]
        have : k = 0 ∨ k = 1 ∨ k = 2 ∨ k = 3 := by omega
        rcases this with rfl | rfl | rfl | rfl <;> rfl
      have TK := hide (TC.out k wr A n c hn hr)
      unfold CachePost at TK
      have hwl := hide (show wa.heap.size + 1 < wr.heap.size from B2.out.lt)
      obtain ⟨x, hx⟩ : ∃ x, xs4 k = x := ⟨_, rfl⟩
      rw [hx] at hq TK
      have HX := hide hx
      clear hr hne hlk hx
      go_wp2_with (
        go_at_call 20
        refine TK.out.mono ?_
        rintro r w1 ⟨A1, n1, c1', rfl, hown, hb1⟩
        have O1 := hide hown
        have B1' := hide (B1.out.below hb1 B1.out.lt)
        have B2' := hide (B2.out.below hb1 B2.out.lt)
        obtain ⟨t0, t1, s0, s1⟩ := B1'.out.two
        have HB1 := hide (Below.then_ HB0.out hb1)
        clear hown hb1)
      go_roundw
      case rel =>
        have hl := hwl.out
        have gl := own_lt O1.out
        have ne1 : ∀ a, A1 = some a → a.block ≠ wa.heap.size ∧ a.block ≠ wa.heap.size + 1 := fun a ha => by
          have := (gl a.block (by rw [ha]; rfl)).1
          omega
        refine ⟨k + 1, n1, c1', A1, by omega, by go_num, ?_, (B2'.out.far (by simp) _).far (by simp) _, ?_, ne1, (HB1.out.setCell (by have := HBA.out.size; simpa using this) _).setCell (by have := HBA.out.size; simpa using this) _⟩
        · have Z := (B1'.out.set_ 0 (.int .i64 2)).set_ 1 (.slice A1 n1 c1')
          simpa using Z
        · have R1 : Rit w1 A1 n1 (LK (k + 1)) := by
            have := Rit.of_own O1.out
            show Rit w1 A1 n1 (touchL 2 (LK k) (xs4 k))
            rw [HX.out]
            exact this
          exact Rd.setCell (Rd.setCell R1 (fun a ha _ e => (ne1 a ha).1 e.symm) _) (fun a ha _ e => (ne1 a ha).1 e.symm) _
      case measure => simp [intOf]; omega
    · obtain rfl : k = 4 := by omega
      rw [lk4] at RK hlk hr
      obtain rfl : n = 3 := hlk.symm
      clear hne
      have BX0 := hide (show Bx wr [(wa.heap.size, 28, [.int .i64 2, .slice A 3 c])] from fun x hx => by rw [List.mem_singleton.1 hx]; exact B1.out)
      clear hr hlk
      have RC0 := hide RK.out
      clear RK
      go_wp2_with (first
         | (
         go_at_call_of 16 (Value.slice A 3 c)
         go_loud (
         refine (V1.out wr A 3 c (by omega) RC0.out).mono ?_
         rintro r w1 ⟨rfl, hb1⟩
         have BX1 := hide ((BX0.out.below hb1).add 47 [.int .i64 2, .int .i64 0, .bool false])
         have HB1 := hide (Below.al (Below.then_ HB0.out hb1) (.cells #[.int .i64 2, .int .i64 0, .bool false] 47))
         have RC1 := hide (Rit.al (RC0.out.below hb1) (.cells #[.int .i64 2, .int .i64 0, .bool false] 47))
         obtain ⟨x1, y1, _, _⟩ := (BX1.out (wa.heap.size, 28, [.int .i64 2, .slice A 3 c]) (by simp)).two
         clear hb1 ))
         | (
         go_at_call 21
         go_loud (
         refine (PN.out _ A 3 c (by omega) RC1.out).mono ?_
         rintro r w2 ⟨A2, n2, c2, rfl, hr2, hc2, hb2⟩
         obtain rfl : n2 = 3 := hr2.len.symm
         have BX2 := hide ((BX1.out.below hb2).add 28 [.int .i64 2, .slice A2 3 c2])
         have HB2 := hide (Below.al (Below.then_ HB1.out hb2) (.cells #[.int .i64 2, .slice A2 3 c2] 28))
         have RC2 := hide (Rit.al (RC1.out.below hb2) (.cells #[.int .i64 2, .slice A2 3 c2] 28))
         have RP2 := hide (Rit.al (hr2) (.cells #[.int .i64 2, .slice A2 3 c2] 28))
         obtain ⟨x2, y2, _, _⟩ := (BX2.out (wa.heap.size, 28, [.int .i64 2, .slice A 3 c]) (by simp)).two
         obtain ⟨u2, v2, _, _⟩ := (BX2.out (w2.heap.size, 28, [.int .i64 2, .slice A2 3 c2]) (by simp)).two
         clear hb2 hr2 hc2 x1 y1))
         | (
         go_at_call_of 16 (Value.slice A2 3 c2)
         go_loud (
         refine (V2.out _ A2 3 c2 (by omega) RP2.out).mono ?_
         rintro r w3 ⟨rfl, hb3⟩
         have BX3 := hide ((BX2.out.below hb3).add 47 [.int .i64 3, .int .i64 0, .bool false])
         have HB3 := hide (Below.al (Below.then_ HB2.out hb3) (.cells #[.int .i64 3, .int .i64 0, .bool false] 47))
         have RC3 := hide (Rit.al (RC2.out.below hb3) (.cells #[.int .i64 3, .int .i64 0, .bool false] 47))
         have RP3 := hide (Rit.al (RP2.out.below hb3) (.cells #[.int .i64 3, .int .i64 0, .bool false] 47))
         obtain ⟨x3, y3, _, _⟩ := (BX3.out (wa.heap.size, 28, [.int .i64 2, .slice A 3 c]) (by simp)).two
         obtain ⟨u3, v3, _, _⟩ := (BX3.out (w2.heap.size, 28, [.int .i64 2, .slice A2 3 c2]) (by simp)).two
         clear hb3 x2 y2 u2 v2))
         | (
         go_at_call 18
         go_loud (
         refine (DR.out _ A2 3 c2 (by omega) RP3.out).mono ?_
         rintro r w4 ⟨A4, n4, c4, rfl, hr4, hc4, hb4⟩
         obtain rfl : n4 = 3 := hr4.len.symm
         have BX4 := hide ((BX3.out.below hb4).add 28 [.int .i64 2, .slice A4 3 c4])
         have HB4 := hide (Below.al (Below.then_ HB3.out hb4) (.cells #[.int .i64 2, .slice A4 3 c4] 28))
         have RC4 := hide (Rit.al (RC3.out.below hb4) (.cells #[.int .i64 2, .slice A4 3 c4] 28))
         have RP4 := hide (Rit.al (RP3.out.below hb4) (.cells #[.int .i64 2, .slice A4 3 c4] 28))
         obtain ⟨x4, y4, _, _⟩ := (BX4.out (wa.heap.size, 28, [.int .i64 2, .slice A 3 c]) (by simp)).two
         clear hb4 hr4 hc4 x3 y3 u3 v3))
         | (
         go_at_call 22
         go_loud (
         refine (UP.out _ A 3 c (by omega) RC4.out).mono ?_
         rintro r w5 ⟨A5, n5, c5, rfl, hr5, hc5, hb5⟩
         obtain rfl : n5 = 3 := hr5.len.symm
         have BX5 := hide ((BX4.out.below hb5).add 28 [.int .i64 2, .slice A5 3 c5])
         have HB5 := hide (Below.al (Below.then_ HB4.out hb5) (.cells #[.int .i64 2, .slice A5 3 c5] 28))
         have RC5 := hide (Rit.al (RC4.out.below hb5) (.cells #[.int .i64 2, .slice A5 3 c5] 28))
         have RP5 := hide (Rit.al (RP4.out.below hb5) (.cells #[.int .i64 2, .slice A5 3 c5] 28))
         obtain ⟨x5, y5, _, _⟩ := (BX5.out (wa.heap.size, 28, [.int .i64 2, .slice A 3 c]) (by simp)).two
         clear hb5 hr5 hc5 x4 y4))
         | (
         go_at_call 23
         go_loud (
         refine (MK.out _ A 3 c (by omega) RC5.out).mono ?_
         rintro r w6 ⟨A6, n6, c6, rfl, hr6, hc6, hb6⟩
         obtain rfl : n6 = 3 := hr6.len.symm
         have BX6 := hide ((BX5.out.below hb6).add 28 [.int .i64 2, .slice A6 3 c6])
         have HB6 := hide (Below.al (Below.then_ HB5.out hb6) (.cells #[.int .i64 2, .slice A6 3 c6] 28))
         have RC6 := hide (Rit.al (RC5.out.below hb6) (.cells #[.int .i64 2, .slice A6 3 c6] 28))
         have RP6 := hide (Rit.al (RP5.out.below hb6) (.cells #[.int .i64 2, .slice A6 3 c6] 28))
         obtain ⟨x6, y6, _, _⟩ := (BX6.out (wa.heap.size, 28, [.int .i64 2, .slice A 3 c]) (by simp)).two
         clear hb6 hr6 hc6 x5 y5))
         | (
         go_at_call 24
         go_loud (
         refine (RN.out _ A 3 c (by omega) RC6.out).mono ?_
         rintro r w7 ⟨A7, n7, c7, rfl, hr7, hc7, hb7⟩
         obtain rfl : n7 = 3 := hr7.len.symm
         obtain ⟨b7, o7, rfl, _, h70, _, _⟩ := hr7.at_ (k := 1) (by omega)
         have h7 := al_cell h70 (.cells #[.int .i64 2, .slice (some ⟨b7, o7, none⟩) 3 c7] 28)
         rw [Nat.one_mul] at h7
         have BX7 := hide ((BX6.out.below hb7).add 28 [.int .i64 2, .slice (some ⟨b7, o7, none⟩) 3 c7])
         have HB7 := hide (Below.al (Below.then_ HB6.out hb7) (.cells #[.int .i64 2, .slice (some ⟨b7, o7, none⟩) 3 c7] 28))
         have RC7 := hide (Rit.al (RC6.out.below hb7) (.cells #[.int .i64 2, .slice (some ⟨b7, o7, none⟩) 3 c7] 28))
         have RP7 := hide (Rit.al (RP6.out.below hb7) (.cells #[.int .i64 2, .slice (some ⟨b7, o7, none⟩) 3 c7] 28))
         obtain ⟨x7, y7, _, _⟩ := (BX7.out (wa.heap.size, 28, [.int .i64 2, .slice A 3 c]) (by simp)).two
         obtain ⟨u7, v7, _, _⟩ := (BX7.out (w2.heap.size, 28, [.int .i64 2, .slice A2 3 c2]) (by simp)).two
         obtain ⟨k7, l7, _, _⟩ := (BX7.out (w7.heap.size, 28, [.int .i64 2, .slice (some ⟨b7, o7, none⟩) 3 c7]) (by simp)).two
         have f5 := (BX7.out (w1.heap.size, 47, [.int .i64 2, .int .i64 0, .bool false]) (by simp)).three.1
         have f9 := (BX7.out (w3.heap.size, 47, [.int .i64 3, .int .i64 0, .bool false]) (by simp)).three.1
         clear hb7 hr7 hc7 x6 y6 h70))
         | (
         go_at_call 19
         go_loud (
         refine (OV.out _ A c).mono ?_
         rintro r w8 ⟨rfl, hb8⟩
         have BX8 := hide (BX7.out.below hb8)
         have HB8 := hide (Below.then_ HB7.out hb8)
         have RC8 := hide (RC7.out.below hb8)
         have RP8 := hide (RP7.out.below hb8)
         obtain ⟨x8, y8, _, _⟩ := (BX8.out (wa.heap.size, 28, [.int .i64 2, .slice A 3 c]) (by simp)).two
         obtain ⟨u8, v8, _, _⟩ := (BX8.out (w2.heap.size, 28, [.int .i64 2, .slice A2 3 c2]) (by simp)).two
         clear hb8))
         | (
         go_at_call 14
         go_loud (
         refine (SM.out _ A 3 c A2 3 c2 (by omega) RC8.out RP8.out).mono ?_
         rintro r w9 ⟨rfl, hb9⟩
         have BX9 := hide (BX8.out.below hb9)
         have HB9 := hide (Below.then_ HB8.out hb9)
         have RC9 := hide (RC8.out.below hb9)
         obtain ⟨x9, y9, _, _⟩ := (BX9.out (wa.heap.size, 28, [.int .i64 2, .slice A 3 c]) (by simp)).two
         clear hb9))
         | (
         go_at_call 11
         go_loud (
         refine (CK.out _ A 3 c (by omega) RC9.out).mono ?_
         rintro r w10 ⟨rfl, hb10⟩)))
      go_ret
      exact ⟨rfl, Below.then_ HB9.out hb10⟩
end Go.Proofs.Ytiaahlkhpghnnaa
