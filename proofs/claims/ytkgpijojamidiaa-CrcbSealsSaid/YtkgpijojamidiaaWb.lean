/- The walks of bytes.Equal, bytes.Clone and the program's Seal, for texts of any length below 2^40. -/
import Derived.Test.YtkgpijojamidiaaWa
namespace Go.Proofs.Ytkgpijojamidiaa
open Go.RowKit

theorem info5 : (Try.prog.info? 5).map (fun i => (i.zero, i.size, i.bytes)) = some (some (.int .u8 0), 1, 1) := by kernel_rfl
theorem size5 : (Try.prog.info? 5).map (·.size) = some 1 := by kernel_rfl

set_option maxHeartbeats 400000 in
theorem equal_any (A1 A2 : Option Addr) (n1 c1 n2 c2 : Nat) (l1 l2 : List UInt8) (w : World) (h1 : Rb w A1 n1 l1) (h2 : Rb w A2 n2 l2) :
    Calls Try.prog 21 #[.slice A1 n1 c1, .slice A2 n2 c2] w fun e w' => e = .returned (.bool (l1 == l2)) ∧ w = w' := by
  have k1 := conv_bytes (P := Try.prog) 22 5 9 Try.underlying22 Try.underlying5 Try.underlying9 c1 h1
  have k2 := conv_bytes (P := Try.prog) 22 5 9 Try.underlying22 Try.underlying5 Try.underlying9 c2 h2
  go_enter Try.func21, Try.ntmps21
  go_wp2
  go_ret
  exact ⟨rfl, rfl⟩

set_option maxHeartbeats 400000 in
theorem clone_any (A : Option Addr) (n c : Nat) (l : List UInt8) (w : World) (hn : n ≤ 1099511627776) (h : Rb w A n l) :
    Calls Try.prog 22 #[.slice A n c] w fun e w' => ∃ A' c', e = .returned (.slice A' n c') ∧ Rb w' A' n l ∧ Below w.heap.size w w' := by
  have q22 : ∀ (w : World) (a : Option Addr) (n c n' c' : Nat), (binOp .eql 22 (.slice a n c) (.slice none n' c')).run Try.prog w = .ok (.bool a.isNone) w :=
    fun w a n c n' c' => Lib.run_eql_slice_nil w _ _ a n c n' c' Try.underlying22
  have H := hide h
  clear h
  cases A with
  | none =>
    go_enter Try.func22, Try.ntmps22
    go_wp2_with fail
    go_ret
    have hn0 : n = 0 := by
      rcases Nat.eq_zero_or_pos n with h0 | h0
      · exact h0
      · obtain ⟨b, o, e, _⟩ := H.out.at_ h0
        cases e
    subst hn0
    have hl : l = [] := List.eq_nil_of_length_eq_zero H.out.len
    subst hl
    exact ⟨_, _, rfl, Rb.none_ _ _, Below.refl _ _⟩
  | some ad =>
    go_enter Try.func22, Try.ntmps22
    go_wp2_with (at_builtin; refine wpList_app rfl (.tmp 5) (.tmp 6) 22 rfl w.heap.size 5 (.int .u8 0) 1 1 Try.underlying22 info5 rfl (by omega) _ _ 0 [] rfl ((Vk.new w 5 []).own (Nat.le_refl _) rfl (by unfold maxLen; omega)) _ n _ (by8 l) rfl (H.out.alloc _) (by8_one l) (by unfold maxLen; omega) (by omega) (by simp) ?_; intro A' c' w1 hown hgr hat)
    go_ret
    simp only [Nat.zero_add, List.nil_append] at hown
    exact ⟨A', c', rfl, Rb.of_own hown, ((Below.refl _ _).alloc (Nat.le_refl _) _).grown hgr (by simp) (by intro k hk; simp [Value.ownBlock] at hk; omega)⟩


set_option maxHeartbeats 400000 in
theorem seal_arg (A : Option Addr) (n c : Nat) (size : Int) (w : World) (hs : size < 8 ∨ 65536 < size) :
    Calls Try.prog 12 #[.slice A n c, .int .i64 size] w fun e w' => e = .returned (.tuple #[.slice none 0 0, .int .i64 2]) ∧ w = w' := by
  rcases hs with h | h
  · have hd : decide (size < 8) = true := by simpa using h
    go_enter Try.func12, Try.ntmps12
    go_wp2_with fail
    go_ret2
    exact ⟨rfl, rfl⟩
  · have hd : decide (size < 8) = false := by simp; omega
    have hd2 : decide (65536 < size) = true := by simpa using h
    have H := hide h
    clear h
    go_enter Try.func12, Try.ntmps12
    go_wp2_with fail
    go_ret2
    exact ⟨rfl, rfl⟩

set_option maxHeartbeats 400000 in
theorem seal_big (A : Option Addr) (n c : Nat) (size : Int) (w : World) (h1 : 8 ≤ size) (h2 : size ≤ 65536) (h3 : size - 8 < n) (_hn : n ≤ 1099511627776) :
    Calls Try.prog 12 #[.slice A n c, .int .i64 size] w fun e w' => e = .returned (.tuple #[.slice none 0 0, .int .i64 5]) ∧ w = w' := by
  have hd : decide (size < 8) = false := by simp; omega
  have hd2 : decide (65536 < size) = false := by simp; omega
  go_enter Try.func12, Try.ntmps12
  go_wp2_with fail
  go_ret2
  exact ⟨rfl, rfl⟩

theorem slice22 : Try.prog.underlying 22 = some (.slice 5) := Try.underlying22
theorem sealed_row (l : List UInt8) (N : Nat) (h : l.length + 8 ≤ N) :
    splice (((zs8 N).set 4 (UInt8.ofNat (l.length / 256))).set 5 (UInt8.ofNat l.length)) 8 l = [0, 0, 0, 0] ++ bodyL l N := laid_row l N h _ _ _ rfl
theorem row_length (l : List UInt8) (N : Nat) (h : l.length + 8 ≤ N) : ([0, 0, 0, 0] ++ bodyL l N).length = N := by
  rw [List.length_append, bodyL_length l N h]; simp; omega
theorem lay_sum (l : List UInt8) (N : Nat) : splice ([0, 0, 0, 0] ++ bodyL l N) 0 (fourL (crc (bodyL l N))) = sealL l N := rfl

set_option maxHeartbeats 1000000 in
theorem seal_ok (A : Option Addr) (n c : Nat) (l : List UInt8) (N : Nat) (w : World) (h1 : 8 ≤ N) (h2 : N ≤ 65536) (h3 : n + 8 ≤ N) (h : Rb w A n l) :
    Calls Try.prog 12 #[.slice A n c, .int .i64 N] w fun e w' => ∃ g, e = .returned (.tuple #[.slice (some ⟨g, 0, none⟩) N N, .int .i64 0]) ∧ w.heap.size ≤ g ∧ Vk w' g 5 (by8 (sealL l N)) ∧ Below w.heap.size w w' := by
  have hd : decide ((N : Int) < 8) = false := by simp; omega
  have hd2 : decide (65536 < (N : Int)) = false := by simp; omega
  obtain ⟨i0, hi0, hz0, hz1, hz2⟩ := info_parts info5
  have H := hide h
  clear h
  go_enter Try.func12, Try.ntmps12
  have hll := hide H.out.len
  have e4 : (Value.int IntKind.u8 ((n : Int) / 256)) = .int .u8 ((UInt8.ofNat (l.length / 256)).toNat : Int) := by rw [hll.out]; simp; omega
  have e5 : (Value.int IntKind.u8 ((n : Int) % 256)) = .int .u8 ((UInt8.ofNat l.length).toNat : Int) := by rw [hll.out]; simp
  have E4 := hide e4
  have E5 := hide e5
  clear e4 e5
  have sl8 := run_lo slice22 size5 (some ⟨w.heap.size, 0, none⟩) N N 8 8 rfl (by omega)
  have sl4 := run_lo slice22 size5 (some ⟨w.heap.size, 0, none⟩) N N 4 4 rfl (by omega)
  go_wp2_with (first
    | (at_make
       refine wpList_make_full _ rfl (.tmp 20) (.tmp 20) 22 rfl w.heap.size 5 i0 (.int .u8 0) 1 Try.underlying22 hi0 hz0 hz1 .i64 .i64 _ _ N rfl rfl rfl rfl (by rw [hz2]; omega) (by unfold maxLen; omega) (Nat.le_refl _) ?_
       intro w1 hown hgr
       rw [made_by8] at hown
       have V1 := hide (Vk.of_own hown)
       have hb1 : Below w.heap.size w w1 := (Below.refl _ _).grown hgr (Nat.le_refl _) (by simp)
       have c4 : w1.cell? ⟨w.heap.size, 4, none⟩ = some (.int .u8 0) := by rw [V1.out.cell, zs8_get _ _ (by omega)]
       have c5 : w1.cell? ⟨w.heap.size, 5, none⟩ = some (.int .u8 0) := by rw [V1.out.cell, zs8_get _ _ (by omega)]
       have f4 := V1.out.frozen 4
       have f5 := V1.out.frozen 5
       clear hown hgr)
    | ((with_reducible show wpList _ _ _ (⟨some 36, _, _, _, _, _⟩ :: _) _ _)
       refine wpList_cp rfl (.tmp 34) (.tmp 35) 22 22 rfl 5 Try.underlying22 size5 _ _ _ _ _ _ rfl rfl w.heap.size 8 n _ 5 ((V1.out.set_ 4 _).set_ 5 _) (by8 l) (H.out.below ((hb1.setCell (p := ⟨w.heap.size, 4, none⟩) (Nat.le_refl _) _).setCell (p := ⟨w.heap.size, 5, none⟩) (Nat.le_refl _) _)) (by omega) (fun _ => cutA_at _ _ _ _ (by omega)) (by simp [by8_length, zs8_length]; omega) (by8_one l) ?_
       intro w2 hv2 hg2
       have V2 := hide (show Vk w2 w.heap.size 5 (by8 ([0, 0, 0, 0] ++ bodyL l N)) by
         have hv := hv2.out
         rw [E4.out, E5.out, set_by8, set_by8, by8_take, List.take_of_length_le (by rw [hll.out]; exact Nat.le_refl _), splice_by8, sealed_row l N (by rw [hll.out]; exact h3)] at hv
         exact hv)
       have hb2 : Below w.heap.size w w2 := ((hb1.setCell (p := ⟨w.heap.size, 4, none⟩) (Nat.le_refl _) _).setCell (p := ⟨w.heap.size, 5, none⟩) (Nat.le_refl _) _).grown hg2 (by simp [World.setCell]; exact hb1.size) (by intro k hk; injection hk with hk; omega)
       have R2 : Rb w2 (cutA (some ⟨w.heap.size, 0, none⟩) N 4) (N - 4) (bodyL l N) := by
         exact Rb.lo_ (l := [0, 0, 0, 0] ++ bodyL l N) (V2.out.rd 1 N (by rw [by8_length, row_length l N (by rw [hll.out]; exact h3), Nat.mul_one])) 4 N (by omega) (Nat.le_refl _)
       clear hv2 hg2 c4 c5 f4 f5)
    | (go_at_call 10
       refine (of_any _ _ _ (bodyL l N) _ (by omega) R2).mono ?_
       rintro e w' ⟨rfl, rfl⟩)
    | (go_at_call 20
       refine (four_any _ (crc (bodyL l N)) rfl _).mono ?_
       rintro e w3 ⟨A4, rfl, hr4, hb4⟩
       have R4 := hide hr4
       have V3 := hide (V2.out.below hb4 V2.out.lt)
       have hb3 : Below w.heap.size w w3 := Below.then_ hb2 hb4
       clear hr4)
    | ((with_reducible show wpList _ _ _ (⟨some 42, _, _, _, _, _⟩ :: _) _ _)
       refine wpList_cp rfl (.tmp 37) (.tmp 41) 22 22 rfl 5 Try.underlying22 size5 _ _ _ _ _ _ rfl rfl w.heap.size 0 4 _ 5 V3.out (by8 (fourL (crc (bodyL l N)))) R4.out (by omega) (fun _ => rfl) (by rw [by8_length, row_length l N (by rw [hll.out]; exact h3)]; omega) (by8_one _) ?_
       intro w4 hv4 hg4
       have V4 := hide (show Vk w4 w.heap.size 5 (by8 (sealL l N)) by
         have hv := hv4.out
         rw [by8_take, List.take_of_length_le (by simp [fourL_length]), splice_by8, lay_sum] at hv
         exact hv)
       have hb5 : Below w.heap.size w w4 := hb3.grown hg4 hb3.size (by intro k hk; injection hk with hk; omega)
       clear hv4 hg4))
  go_ret2
  exact ⟨_, rfl, Nat.le_refl _, V4.out, hb5⟩

end Go.Proofs.Ytkgpijojamidiaa
