/- The walk of Put. -/
import Derived.Test.YtelhjficggoliaaWd
import Derived.Test.YtelhjficggoliaaSec
namespace Go.Proofs.Ytelhjficggoliaa
open Go.RowKit

theorem info22 : (Try.prog.info? 22).map (fun i => (i.zero, i.size, i.bytes)) = some (some (.slice none 0 0), 1, 24) := by kernel_rfl
theorem size22 : (Try.prog.info? 22).map (·.size) = some 1 := by kernel_rfl

set_option maxHeartbeats 1000000 in
theorem put_range (g : Int) (A : Option Addr) (n c : Nat) (l : List UInt8) (w : World) (hg : g < 1 ∨ 1099511627776 < g) :
    Calls Try.prog 8 #[.int .i64 g, .slice A n c] w (PutPost g l w) := by
  have hE : putE g l = 9 := by unfold putE; rw [if_pos hg]
  have hL : putL g l = [] := by unfold putL; rw [hE]; rfl
  unfold PutPost
  rw [hE, hL]
  by_cases h1 : g < 1
  · have hd : decide (g < 1) = true := decide_eq_true h1
    clear hE hL hg
    go_enter Try.func8, Try.ntmps8
    go_wp2_with fail
    go_ret2
    exact ⟨_, _, _, rfl, Obb.nil _ _, Below.refl _ _⟩
  · have hd : decide (g < 1) = false := decide_eq_false h1
    have hd2 : decide (1099511627776 < g) = true := by simp; omega
    clear hE hL hg
    go_enter Try.func8, Try.ntmps8
    go_wp2_with fail
    go_ret2
    exact ⟨_, _, _, rfl, Obb.nil _ _, Below.refl _ _⟩
set_option maxHeartbeats 1000000 in
theorem put_big (g : Int) (A : Option Addr) (n c : Nat) (l : List UInt8) (w : World) (h1 : 1 ≤ g) (h2 : g ≤ 1099511627776) (h : l.length = n) (hn : 954 < n) :
    Calls Try.prog 8 #[.int .i64 g, .slice A n c] w (PutPost g l w) := by
  have hE : putE g l = 5 := by unfold putE; rw [if_neg (by omega), if_pos (by omega)]
  have hL : putL g l = [] := by unfold putL; rw [hE]; rfl
  unfold PutPost
  rw [hE, hL]
  have hd : decide (g < 1) = false := by simp; omega
  have hd2 : decide (1099511627776 < g) = false := by simp; omega
  have hd3 : decide (954 < (n : Int)) = true := by simp; omega
  clear hE hL h1 h2
  go_enter Try.func8, Try.ntmps8
  go_wp2_with fail
  go_ret2
  exact ⟨_, _, _, rfl, Obb.nil _ _, Below.refl _ _⟩

theorem rdb {w : World} {A : Option Addr} {n : Nat} {l : List UInt8} (h : Rb w A n l) : Rd w A n 1 (by8 l) := h

set_option maxHeartbeats 8000000 in
theorem put_ok (m : Nat) (A : Option Addr) (n c : Nat) (l : List UInt8) (w : World) (h1 : (1 : Int) ≤ m) (h2 : (m : Int) ≤ 1099511627776) (hn : n ≤ 954) (h : Rb w A n l) :
    Calls Try.prog 8 #[.int .i64 m, .slice A n c] w (PutPost m l w) := by
  have hll := hide h.len
  have hE : putE m l = 0 := by unfold putE; rw [if_neg (by omega), if_neg (by have := hll.out; omega)]
  have hL : putL m l = secs m l 4 := by unfold putL; rw [if_pos hE]; rfl
  unfold PutPost
  rw [hE, hL]
  have hd : decide ((m : Int) < 1) = false := by simp; omega
  have hd2 : decide (1099511627776 < (m : Int)) = false := by simp; omega
  have hd3 : decide (954 < (n : Int)) = false := by simp; omega
  clear hE hL h1 h2
  obtain ⟨i0, hi0, hz0, hz1, hz2⟩ := info_parts info5
  have H := hide h
  clear h
  have E0 := hide (show (Value.int IntKind.u8 ((n : Int) / 256)) = .int .u8 ((UInt8.ofNat (l.length / 256)).toNat : Int) by rw [hll.out]; simp; omega)
  have E1 := hide (show (Value.int IntKind.u8 ((n : Int) % 256)) = .int .u8 ((UInt8.ofNat l.length).toNat : Int) by rw [hll.out]; simp)
  obtain ⟨x0, x1, x2, x3, x4, x5, x6, x7, hx⟩ := eight_of (be8 m) rfl
  have hof := of_any m
  rw [hx] at hof
  have HOF := hide (show ∀ w, Calls Try.prog 19 #[.int .i64 m] w fun e w' => e = .returned (.agg #[.int .u8 (x0.toNat : Int), .int .u8 (x1.toNat : Int), .int .u8 (x2.toNat : Int), .int .u8 (x3.toNat : Int), .int .u8 (x4.toNat : Int), .int .u8 (x5.toNat : Int), .int .u8 (x6.toNat : Int), .int .u8 (x7.toNat : Int)]) ∧ Below w.heap.size w w' from hof)
  have HX := hide hx
  clear hof hx
  go_enter Try.func8, Try.ntmps8
  have sl2 := run_lo slice22 size5 (some ⟨w.heap.size, 0, none⟩) 956 956 2 2 rfl (by omega)
  go_wp2_with (first
    | (at_make
       refine wpList_make_full _ rfl (.const (.int .i64 956)) (.const (.int .i64 956)) 22 rfl w.heap.size 5 i0 (.int .u8 0) 1 Try.underlying22 hi0 hz0 hz1 .i64 .i64 _ _ 956 rfl rfl rfl rfl (by rw [hz2]; omega) (by unfold maxLen; omega) (Nat.le_refl _) ?_
       intro w1 hown hgr
       rw [made_by8] at hown
       have V1 := hide (Vk.of_own hown)
       have hb1 : Below w.heap.size w w1 := (Below.refl _ _).grown hgr (Nat.le_refl _) (by simp)
       have c4 : w1.cell? ⟨w.heap.size, 0, none⟩ = some (.int .u8 0) := by rw [V1.out.cell, zs8_get _ _ (by omega)]
       have c5 : w1.cell? ⟨w.heap.size, 1, none⟩ = some (.int .u8 0) := by rw [V1.out.cell, zs8_get _ _ (by omega)]
       have f4 := V1.out.frozen 0
       have f5 := V1.out.frozen 1
       clear hown hgr)
    | ((with_reducible show wpList _ _ _ (⟨some 37, _, _, _, _, _⟩ :: _) _ _)
       refine wpList_cp rfl (.tmp 35) (.tmp 36) 22 22 rfl 5 Try.underlying22 size5 _ _ _ _ _ _ rfl rfl w.heap.size 2 n _ 5 ((V1.out.set_ 0 _).set_ 1 _) (by8 l) (H.out.below ((hb1.setCell (p := ⟨w.heap.size, 0, none⟩) (Nat.le_refl _) _).setCell (p := ⟨w.heap.size, 1, none⟩) (Nat.le_refl _) _)) (by omega) (fun _ => cutA_at _ _ _ _ (by omega)) (by simp [by8_length, zs8_length]; omega) (by8_one l) ?_
       intro w2 hv2 hg2
       have V2 := hide (show Vk w2 w.heap.size 5 (by8 (allB l)) by
         have hv := hv2.out
         rw [E0.out, E1.out, set_by8, set_by8, by8_take, List.take_of_length_le (by rw [hll.out]; exact Nat.le_refl _), splice_by8, allB_splice l] at hv
         exact hv)
       have hb2 : Below w.heap.size w w2 := ((hb1.setCell (p := ⟨w.heap.size, 0, none⟩) (Nat.le_refl _) _).setCell (p := ⟨w.heap.size, 1, none⟩) (Nat.le_refl _) _).grown hg2 (by simp [World.setCell]; exact hb1.size) (by intro k hk; injection hk with hk; omega)
       clear hv2 hg2 c4 c5 f4 f5)
    | (go_at_call 19
       refine (HOF.out _).mono ?_
       rintro e w3 ⟨rfl, hb3⟩))
  obtain ⟨w4, hw4⟩ : ∃ w4, w4 = w3.alloc (.cells #[.int .u8 (x0.toNat : Int), .int .u8 (x1.toNat : Int), .int .u8 (x2.toNat : Int), .int .u8 (x3.toNat : Int), .int .u8 (x4.toNat : Int), .int .u8 (x5.toNat : Int), .int .u8 (x6.toNat : Int), .int .u8 (x7.toNat : Int)] 51) := ⟨_, rfl⟩
  have hb4 : Below w.heap.size w w4 := by rw [hw4]; exact Below.al (Below.then_ hb2 hb3) _
  have V4 := hide (show Vk w4 w.heap.size 5 (by8 (allB l)) by rw [hw4]; exact (V2.out.below hb3 V2.out.lt).alloc _)
  have S4 := hide (show Vk w4 w3.heap.size 51 (by8 (be8 m)) by rw [hw4, HX.out]; exact Vk.new w3 51 _)
  have hlt1 := hide V4.out.lt
  have hlt2 := hide S4.out.lt
  rw [← hw4]
  clear hw4
  go_loopw [8, 9, 10, 40] (fun o _ _ i wr => ∃ (k : Nat) (A : Option Addr) (c : Nat), k ≤ 4 ∧ i = .int .i64 k ∧ o = .slice A k c ∧ Obb 22 5 wr w4.heap.size A c k (secs m l k) ∧ Below w4.heap.size w4 wr) (fun _ _ _ i _ => 4 - (intOf i).toNat)
  case atStart => exact ⟨0, none, 0, Nat.zero_le _, rfl, rfl, Obb.nil _ _, Below.refl _ _⟩
  case round =>
    obtain ⟨k, Ao, co, hk, rfl, rfl, hobb, hbr⟩ := hrel
    have O := hide hobb
    clear hobb
    by_cases hlt : k < 4
    · have slk : ∀ w', (Instr.slice 22 (.slice (some ⟨w.heap.size, 0, none⟩) 956 956) (some (.int .i64 ((k : Int) * 239))) (some (.int .i64 (((k : Int) + 1) * 239))) none).run Try.prog w' = .ok (.slice (cutA (some ⟨w.heap.size, 0, none⟩) 956 (k * 239)) 239 (956 - k * 239)) w' := fun w' => by
        have := run_lohi slice22 size5 (some ⟨w.heap.size, 0, none⟩) 956 956 (k * 239) ((k + 1) * 239) ((k : Int) * 239) (((k : Int) + 1) * 239) (by omega) (by omega) (by omega) (by omega) w'
        rwa [show (k + 1) * 239 - k * 239 = 239 by omega] at this
      have RK := hide (fun w' (hb : Below wr.heap.size wr w') => Rb.lohi_ (l := allB l) (((V4.out.below hbr hlt1.out).below hb (Nat.lt_of_lt_of_le hlt1.out hbr.size)).rd 1 956 (by rw [by8_length, allB_length l (by rw [hll.out]; exact hn)])) (k * 239) (k * 239 + 239) 956 (by omega) (by omega) (Nat.le_refl _))
      obtain ⟨P, hP⟩ : ∃ P, P = cutA (some ⟨w.heap.size, 0, none⟩) 956 (k * 239) := ⟨_, rfl⟩
      obtain ⟨cc, hcc⟩ : ∃ cc, cc = 956 - k * 239 := ⟨_, rfl⟩
      rw [← hP] at slk RK
      rw [← hcc] at slk
      clear hP hcc
      have EK := hide (show (Value.int IntKind.u8 (k : Int)) = .int .u8 ((UInt8.ofNat k).toNat : Int) by simp; omega)
      have RS := hide (fun w' (hb : Below wr.heap.size wr w') => ((S4.out.below hbr hlt2.out).below hb (Nat.lt_of_lt_of_le hlt2.out hbr.size)).rd 1 8 rfl)
      have E239 := hide (show k * 239 + 239 - k * 239 = 239 by omega)
      have hk63 := hide (show k + 1 ≤ maxLen by unfold maxLen; omega)
      go_wp2_with (first
        | ((with_reducible show wpList _ _ _ (⟨some 47, _, _, _, _, _⟩ :: _) _ _)
           refine wpList_app_grow rfl (.tmp 43) (.tmp 46) 22 rfl wr.heap.size 5 (.int .u8 0) 1 1 Try.underlying22 info5 rfl (by omega) _ 8 8 (by8 (be8 m)) rfl (RS.out _ (Below.al (Below.refl _ _) _)) _ 1 1 (by8 [UInt8.ofNat k]) rfl (by rw [EK.out]; exact (Vk.new wr 5 (by8 [UInt8.ofNat k])).rd 1 1 rfl) (by8_one _) (by omega) (by omega) (by unfold maxLen; omega) (by omega) (by simp) ?_
           intro g1 c1 w1 hown hgr hz
           clear hz
           have hb1 : Below wr.heap.size wr w1 := (Below.al (Below.refl _ _) _).grown hgr (by simp) (by simp)
           rw [← by8_append] at hown
           have O1 := hide hown
           clear hown hgr)
        | ((with_reducible show wpList _ _ _ (⟨some 56, _, _, _, _, _⟩ :: _) _ _)
           refine wpList_app rfl (.tmp 48) (.tmp 55) 22 rfl wr.heap.size 5 (.int .u8 0) 1 1 Try.underlying22 info5 rfl (by omega) _ _ _ _ rfl O1.out _ 239 _ (by8 (((allB l).drop (k * 239)).take 239)) rfl (by have := RK.out w1 hb1; rw [E239.out] at this; exact this) (by8_one _) (by unfold maxLen; omega) (by omega) hb1.size ?_
           intro A2 c2 w2 hown hgr _
           have hb2 : Below wr.heap.size wr w2 := hb1.grown hgr hb1.size (fun j hj => (own_lt O1.out j hj).1)
           rw [← by8_append] at hown
           have O2 := hide hown
           clear hown hgr)
        | ((with_reducible show wpList _ _ _ (⟨some 60, _, _, _, _, _⟩ :: _) _ _)
           refine wpList_app rfl (.tmp 58) (.tmp 59) 22 rfl wr.heap.size 5 (.int .u8 0) 1 1 Try.underlying22 info5 rfl (by omega) _ _ _ _ rfl O2.out _ 8 _ (by8 (be8 m)) rfl (RS.out _ hb2) (by8_one _) (by unfold maxLen; omega) (by omega) hb2.size ?_
           intro A3 c3 w5 hown hgr _
           have hb5 : Below wr.heap.size wr w5 := hb2.grown hgr hb2.size (fun j hj => (own_lt O2.out j hj).1)
           rw [← by8_append] at hown
           have O3 := hide hown
           clear hown hgr)
        | ((with_reducible show wpList _ _ _ (⟨some 62, _, _, _, _, _⟩ :: _) _ _)
           obtain ⟨hl, vs, ho, hi⟩ := O.out.below (Below.al hb5 (.cells #[.slice A3 256 c3] 22))
           have N6 : Rd (w5.alloc (.cells #[.slice A3 256 c3] 22)) (some ⟨w5.heap.size, 0, none⟩) 1 1 [.slice A3 256 c3] := (Vk.new w5 22 [.slice A3 256 c3]).rd 1 1 rfl
           have N7 : w4.heap.size ≤ (w5.alloc (.cells #[.slice A3 256 c3] 22)).heap.size := by simp; have := hb5.size; have := hbr.size; omega
           have N8 : (w5.alloc (.cells #[.slice A3 256 c3] 22)).ownsRow w4.heap.size 5 1 (.slice A3 256 c3) 256 (by8 (sec m l k)) := own_mono (own_below O3.out (Below.al (Below.refl _ _) _)) hbr.size
           refine wpList_app rfl (.tmp 57) (.tmp 61) 24 rfl w4.heap.size 22 (.slice none 0 0) 1 24 Try.underlying24 info22 rfl (by omega) _ _ k vs rfl ho _ 1 _ [.slice A3 256 c3] rfl N6 (by simp [Value.oneCell']) hk63.out (by omega) N7 ?_
           intro A6 c6 w6 hown hgr hz
           clear hz
           have O6 := hide (Obb.push (by decide) ⟨hl, vs, ho, hi⟩ hi ho N8 hown hgr)
           have hb6 : Below w4.heap.size w4 w6 := (Below.al (Below.then_ hbr hb5) _).grown hgr N7 (fun j hj => (own_lt ho j hj).1)
           clear hown hgr ho hi hl N6 N7 N8))
      go_roundw
      case rel => exact ⟨k + 1, A6, c6, by omega, by go_num, rfl, by rw [secs_succ]; exact O6.out, hb6⟩
      case measure => simp [intOf]; omega
    · obtain rfl : k = 4 := by omega
      go_wp2_with fail
      go_ret2
      exact ⟨_, _, _, rfl, O.out.mono hb4.size, Below.then_ hb4 hbr⟩

theorem put_any (g : Int) (A : Option Addr) (n c : Nat) (l : List UInt8) (w : World) (h : Rb w A n l) :
    Calls Try.prog 8 #[.int .i64 g, .slice A n c] w (PutPost g l w) := by
  by_cases hg : g < 1 ∨ 1099511627776 < g
  · exact put_range g A n c l w hg
  · by_cases hn : 954 < n
    · exact put_big g A n c l w (by omega) (by omega) h.len hn
    · obtain ⟨m, rfl⟩ : ∃ m : Nat, g = m := ⟨g.toNat, by omega⟩
      exact put_ok m A n c l w (by omega) (by omega) (by omega) h

end Go.Proofs.Ytelhjficggoliaa
