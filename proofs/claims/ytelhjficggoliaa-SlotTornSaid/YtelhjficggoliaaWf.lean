/- The walk of the reference's Put. -/
import Derived.Test.YtelhjficggoliaaWe
namespace Go.Proofs.Ytelhjficggoliaa
open Go.RowKit

set_option maxHeartbeats 1000000 in
theorem rput_range (g : Int) (A : Option Addr) (n c : Nat) (l : List UInt8) (w : World) (hg : g < 1 ∨ 1099511627776 < g) :
    Calls Try.prog 9 #[.int .i64 g, .slice A n c] w (PutPost g l w) := by
  have hE : putE g l = 9 := by unfold putE; rw [if_pos hg]
  have hL : putL g l = [] := by unfold putL; rw [hE]; rfl
  unfold PutPost
  rw [hE, hL]
  by_cases h1 : g < 1
  · have hd : decide (g < 1) = true := decide_eq_true h1
    clear hE hL hg
    go_enter Try.func9, Try.ntmps9
    go_wp2_with fail
    go_ret2
    exact ⟨_, _, _, rfl, Obb.nil _ _, Below.refl _ _⟩
  · have hd : decide (g < 1) = false := decide_eq_false h1
    have hd2 : decide (1099511627776 < g) = true := by simp; omega
    clear hE hL hg
    go_enter Try.func9, Try.ntmps9
    go_wp2_with fail
    go_ret2
    exact ⟨_, _, _, rfl, Obb.nil _ _, Below.refl _ _⟩
set_option maxHeartbeats 1000000 in
theorem rput_big (g : Int) (A : Option Addr) (n c : Nat) (l : List UInt8) (w : World) (h1 : 1 ≤ g) (h2 : g ≤ 1099511627776) (h : l.length = n) (hn : 954 < n) :
    Calls Try.prog 9 #[.int .i64 g, .slice A n c] w (PutPost g l w) := by
  have hE : putE g l = 5 := by unfold putE; rw [if_neg (by omega), if_pos (by omega)]
  have hL : putL g l = [] := by unfold putL; rw [hE]; rfl
  unfold PutPost
  rw [hE, hL]
  have hd : decide (g < 1) = false := by simp; omega
  have hd2 : decide (1099511627776 < g) = false := by simp; omega
  have hd3 : decide (954 < (n : Int)) = true := by simp; omega
  clear hE hL h1 h2
  go_enter Try.func9, Try.ntmps9
  go_wp2_with fail
  go_ret2
  exact ⟨_, _, _, rfl, Obb.nil _ _, Below.refl _ _⟩

theorem allB_app (l : List UInt8) : [UInt8.ofNat (l.length / 256), UInt8.ofNat l.length] ++ l ++ zs8 (954 - l.length) = allB l := rfl

set_option maxHeartbeats 8000000 in
theorem rput_ok (m : Nat) (A : Option Addr) (n c : Nat) (l : List UInt8) (w : World) (h1 : (1 : Int) ≤ m) (h2 : (m : Int) ≤ 1099511627776) (hn : n ≤ 954) (h : Rb w A n l) :
    Calls Try.prog 9 #[.int .i64 m, .slice A n c] w (PutPost m l w) := by
  have hll := hide h.len
  have hE : putE m l = 0 := by unfold putE; rw [if_neg (by omega), if_neg (by have := hll.out; omega)]
  have hL : putL m l = secs m l 4 := by unfold putL; rw [if_pos hE]; rfl
  unfold PutPost
  rw [hE, hL]
  have hd : decide ((m : Int) < 1) = false := by simp; omega
  have hd2 : decide (1099511627776 < (m : Int)) = false := by simp; omega
  have hd3 : decide (954 < (n : Int)) = false := by simp; omega
  have HM := hide (show m ≤ 4611686018427387904 by omega)
  clear hE hL h1 h2
  have H := hide h
  clear h
  have E0 := hide (show (Value.int IntKind.u8 ((n : Int) / 256)) = .int .u8 ((UInt8.ofNat (l.length / 256)).toNat : Int) by rw [hll.out]; simp; omega)
  have E1 := hide (show (Value.int IntKind.u8 ((n : Int) % 256)) = .int .u8 ((UInt8.ofNat l.length).toNat : Int) by rw [hll.out]; simp)
  have E954 := hide (show 954 - n = 954 - l.length by rw [hll.out])
  have EN := hide (show 2 + n + (954 - n) = 956 by omega)
  go_enter Try.func9, Try.ntmps9
  go_wp2_with (first
    | ((with_reducible show wpList _ _ _ (⟨some 31, _, _, _, _, _⟩ :: _) _ _)
       have N0 : (w.alloc (.cells #[.int .u8 ((n : Int) / 256), .int .u8 ((n : Int) % 256)] 5)).ownsRow w.heap.size 5 1 (.slice (some ⟨w.heap.size, 0, none⟩) 2 2) 2 (by8 [UInt8.ofNat (l.length / 256), UInt8.ofNat l.length]) := by
         rw [E0.out, E1.out]; exact (Vk.new w 5 (by8 [UInt8.ofNat (l.length / 256), UInt8.ofNat l.length])).own (Nat.le_refl _) rfl (by unfold maxLen; omega)
       refine wpList_app rfl (.tmp 29) (.tmp 30) 22 rfl w.heap.size 5 (.int .u8 0) 1 1 Try.underlying22 info5 rfl (by omega) _ _ _ _ rfl N0 _ n _ (by8 l) rfl (Rb.alloc H.out _) (by8_one _) (by unfold maxLen; omega) (by omega) (by simp) ?_
       intro A1 c1 w1 hown hgr hz
       clear hz
       have hb1 : Below w.heap.size w w1 := (Below.al (Below.refl _ _) _).grown hgr (by simp) (fun j hj => (own_lt N0 j hj).1)
       rw [← by8_append] at hown
       have O1 := hide hown
       clear hown hgr N0)
    | ((with_reducible show wpList _ _ _ (⟨some 36, _, _, _, _, _⟩ :: _) _ _)
       refine wpList_app_zeros rfl (.tmp 32) (.tmp 35) 22 3 rfl w.heap.size 5 .i64 (.int .u8 0) 1 Try.underlying22 Try.underlying3 info5 rfl rfl _ _ _ _ rfl O1.out _ (954 - n) rfl (by omega) (by unfold maxLen; omega) (by omega) hb1.size ?_
       intro A2 c2 w2 hown hgr hz
       clear hz
       have hb2 : Below w.heap.size w w2 := hb1.grown hgr hb1.size (fun j hj => (own_lt O1.out j hj).1)
       rw [EN.out, E954.out, zeros_by8, ← by8_append] at hown
       have O2 := hide (show w2.ownsRow w.heap.size 5 1 (.slice A2 956 c2) 956 (by8 (allB l)) from hown)
       rw [EN.out]
       clear hown hgr))
  have hcap := own_cap O2.out
  have RA := hide (Rb.of_own O2.out)
  have c956 := hcap.1
  clear hcap
  clear O2
  go_loopw [7, 8, 9] (fun o i _ wr => ∃ (k : Nat) (A : Option Addr) (c : Nat), k ≤ 4 ∧ i = .int .i64 k ∧ o = .slice A k c ∧ Obb 22 5 wr w2.heap.size A c k (secs m l k) ∧ Below w2.heap.size w2 wr) (fun _ i _ _ => 4 - (intOf i).toNat)
  case atStart => exact ⟨0, none, 0, Nat.zero_le _, rfl, rfl, Obb.nil _ _, Below.refl _ _⟩
  case round =>
    obtain ⟨k, Ao, co, hk, rfl, rfl, hobb, hbr⟩ := hrel
    have O := hide hobb
    clear hobb
    by_cases hlt : k < 4
    · have slk : ∀ w', (Instr.slice 22 (.slice A2 956 c2) (some (.int .i64 ((k : Int) * 239))) (some (.int .i64 ((k : Int) * 239 + 239))) none).run Try.prog w' = .ok (.slice (cutA A2 c2 (k * 239)) 239 (c2 - k * 239)) w' := fun w' => by
        have := run_lohi slice22 size5 A2 956 c2 (k * 239) (k * 239 + 239) ((k : Int) * 239) ((k : Int) * 239 + 239) (by omega) (by omega) (by omega) (by omega) w'
        rwa [show k * 239 + 239 - k * 239 = 239 by omega] at this
      have RK := hide (fun w' (hb : Below wr.heap.size wr w') => Rb.lohi_ (l := allB l) ((RA.out.below hbr).below hb) (k * 239) (k * 239 + 239) c2 (by omega) (by omega) c956)
      obtain ⟨P, hP⟩ : ∃ P, P = cutA A2 c2 (k * 239) := ⟨_, rfl⟩
      obtain ⟨cc, hcc⟩ : ∃ cc, cc = c2 - k * 239 := ⟨_, rfl⟩
      rw [← hP] at slk RK
      rw [← hcc] at slk
      clear hP hcc
      have EK := hide (show (Value.int IntKind.u8 (k : Int)) = .int .u8 ((UInt8.ofNat k).toNat : Int) by simp; omega)
      have E239 := hide (show k * 239 + 239 - k * 239 = 239 by omega)
      have hk63 := hide (show k + 1 ≤ maxLen by unfold maxLen; omega)
      go_wp2_with (first
        | (go_at_call 20
           have hR := O3
           clear hR
           refine (eight_any m _ HM.out).mono ?_
           rintro e w6 ⟨A6, c6, rfl, ho6, hb36⟩
           have hb6 : Below wr.heap.size wr w6 := Below.then_ hb5 hb36
           have O5 := hide (own_below O3.out hb36)
           have R6 := hide (Rb.of_own ho6)
           clear ho6)
        | (go_at_call 20
           refine (eight_any m _ HM.out).mono ?_
           rintro e w3 ⟨A3, c3, rfl, ho3, hb3⟩
           have O1 := hide ho3
           clear ho3)
        | ((with_reducible show wpList _ _ _ (⟨some 46, _, _, _, _, _⟩ :: _) _ _)
           have N1 := own_below O1.out (Below.al (Below.refl _ _) (.cells (by8 [UInt8.ofNat k]).toArray 5))
           have N2 : Rd (w3.alloc (.cells #[.int .u8 (k : Int)] 5)) (some ⟨w3.heap.size, 0, none⟩) 1 1 (by8 [UInt8.ofNat k]) := by rw [EK.out]; exact (Vk.new w3 5 (by8 [UInt8.ofNat k])).rd 1 1 rfl
           have N3 : wr.heap.size ≤ (w3.alloc (.cells #[.int .u8 (k : Int)] 5)).heap.size := by simp; have := hb3.size; omega
           refine wpList_app rfl (.tmp 42) (.tmp 45) 22 rfl wr.heap.size 5 (.int .u8 0) 1 1 Try.underlying22 info5 rfl (by omega) _ _ _ _ rfl (by rw [EK.out]; exact N1) _ 1 _ (by8 [UInt8.ofNat k]) rfl N2 (by8_one _) (by unfold maxLen; omega) (by omega) N3 ?_
           intro A4 c4 w4 hown hgr hz
           clear hz
           have hb4 : Below wr.heap.size wr w4 := (Below.al hb3 _).grown hgr N3 (fun j hj => (own_lt N1 j hj).1)
           rw [← by8_append] at hown
           have O2 := hide hown
           clear hown hgr N1 N2 N3)
        | ((with_reducible show wpList _ _ _ (⟨some 55, _, _, _, _, _⟩ :: _) _ _)
           refine wpList_app rfl (.tmp 47) (.tmp 54) 22 rfl wr.heap.size 5 (.int .u8 0) 1 1 Try.underlying22 info5 rfl (by omega) _ _ _ _ rfl O2.out _ 239 _ (by8 (((allB l).drop (k * 239)).take 239)) rfl (by have := RK.out w4 hb4; rw [E239.out] at this; exact this) (by8_one _) (by unfold maxLen; omega) (by omega) hb4.size ?_
           intro A5 c5 w5 hown hgr hz
           clear hz
           have hb5 : Below wr.heap.size wr w5 := hb4.grown hgr hb4.size (fun j hj => (own_lt O2.out j hj).1)
           rw [← by8_append] at hown
           have O3 := hide hown
           clear hown hgr)
        | ((with_reducible show wpList _ _ _ (⟨some 60, _, _, _, _, _⟩ :: _) _ _)
           refine wpList_app rfl (.tmp 57) (.tmp 59) 22 rfl wr.heap.size 5 (.int .u8 0) 1 1 Try.underlying22 info5 rfl (by omega) _ _ _ _ rfl O5.out _ 8 _ (by8 (be8 m)) rfl (rdb R6.out) (by8_one _) (by unfold maxLen; omega) (by omega) hb6.size ?_
           intro A7 c7 w7 hown hgr hz
           clear hz
           have hb7 : Below wr.heap.size wr w7 := hb6.grown hgr hb6.size (fun j hj => (own_lt O5.out j hj).1)
           rw [← by8_append] at hown
           have O7 := hide hown
           clear hown hgr)
        | ((with_reducible show wpList _ _ _ (⟨some 62, _, _, _, _, _⟩ :: _) _ _)
           obtain ⟨hl, vs, ho, hi⟩ := O.out.below (Below.al hb7 (.cells #[.slice A7 256 c7] 22))
           have N6 : Rd (w7.alloc (.cells #[.slice A7 256 c7] 22)) (some ⟨w7.heap.size, 0, none⟩) 1 1 [.slice A7 256 c7] := (Vk.new w7 22 [.slice A7 256 c7]).rd 1 1 rfl
           have N7 : w2.heap.size ≤ (w7.alloc (.cells #[.slice A7 256 c7] 22)).heap.size := by simp; have := hb7.size; have := hbr.size; omega
           have N8 : (w7.alloc (.cells #[.slice A7 256 c7] 22)).ownsRow w2.heap.size 5 1 (.slice A7 256 c7) 256 (by8 (sec m l k)) := own_mono (own_below O7.out (Below.al (Below.refl _ _) _)) hbr.size
           refine wpList_app rfl (.tmp 56) (.tmp 61) 24 rfl w2.heap.size 22 (.slice none 0 0) 1 24 Try.underlying24 info22 rfl (by omega) _ _ k vs rfl ho _ 1 _ [.slice A7 256 c7] rfl N6 (by simp [Value.oneCell']) hk63.out (by omega) N7 ?_
           intro A8 c8 w8 hown hgr hz
           clear hz
           have O8 := hide (Obb.push (by decide) ⟨hl, vs, ho, hi⟩ hi ho N8 hown hgr)
           have hb8 : Below w2.heap.size w2 w8 := (Below.al (Below.then_ hbr hb7) _).grown hgr N7 (fun j hj => (own_lt ho j hj).1)
           clear hown hgr ho hi hl N6 N7 N8))
      go_roundw
      case rel => exact ⟨k + 1, A8, c8, by omega, by go_num, rfl, by rw [secs_succ]; exact O8.out, hb8⟩
      case measure => simp [intOf]; omega
    · obtain rfl : k = 4 := by omega
      go_wp2_with fail
      go_ret2
      exact ⟨_, _, _, rfl, O.out.mono hb2.size, Below.then_ hb2 hbr⟩

theorem rput_any (g : Int) (A : Option Addr) (n c : Nat) (l : List UInt8) (w : World) (h : Rb w A n l) :
    Calls Try.prog 9 #[.int .i64 g, .slice A n c] w (PutPost g l w) := by
  by_cases hg : g < 1 ∨ 1099511627776 < g
  · exact rput_range g A n c l w hg
  · by_cases hn : 954 < n
    · exact rput_big g A n c l w (by omega) (by omega) h.len hn
    · obtain ⟨m, rfl⟩ : ∃ m : Nat, g = m := ⟨g.toNat, by omega⟩
      exact rput_ok m A n c l w (by omega) (by omega) (by omega) h

end Go.Proofs.Ytelhjficggoliaa
