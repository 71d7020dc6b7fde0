/- The walk of the laws' own check 'awake': it is true in every world, and leaves what was there. -/
import Derived.Test.YtelhjficggoliaaBack
import Derived.Lib.SlBytesConst

import Derived.Deep.RegionWith
namespace Go.Proofs.Ytelhjficggoliaa
open Go.RowKit

theorem Rbb.lo_ {w : World} {A : Option Addr} {n : Nat} {L : List (List UInt8)} (h : Rbb w A n L) (k c : Nat) (h1 : k ≤ n) (h3 : n ≤ c) : Rbb w (cutA A c k) (n - k) (L.drop k) := by
  obtain ⟨hl, vs, hr, hx⟩ := h
  refine ⟨by rw [List.length_drop, hl], vs.drop k, ?_, fun i l hi => ?_⟩
  · have := hr.lo_ k c h1 h3
    simp only [Nat.mul_one] at this
    exact this
  · rw [List.getElem?_drop] at hi ⊢
    exact hx _ l hi
theorem Rbb.hi_ {w : World} {A : Option Addr} {n : Nat} {L : List (List UInt8)} (h : Rbb w A n L) (j c : Nat) (h2 : j ≤ n) (h3 : n ≤ c) : Rbb w (cutA A c 0) j (L.take j) := by
  obtain ⟨hl, vs, hr, hx⟩ := h
  refine ⟨by rw [List.length_take, hl]; omega, vs.take j, ?_, fun i l hi => ?_⟩
  · have := hr.upto j c h2 h3
    simp only [Nat.mul_one, Nat.sub_zero] at this
    exact this
  · rw [List.getElem?_take] at hi ⊢
    split at hi
    · rename_i h
      rw [if_pos h]
      exact hx _ l hi
    · cases hi
def ab : List UInt8 := [97, 98]
theorem ab_seen : seenK ((secs 5 ab 4).drop 1) 3 = 5 := by decide +kernel
theorem ab_cut : ((sec 5 ab 0).drop 7).take 7 = [5, 0, 0, 2, 97, 98, 0] := by decide +kernel
theorem ab_last : ((sec 5 ab 0).getD 255 0).toNat = 5 := by decide +kernel
theorem ab_three : getE ((secs 5 ab 4).take 3) = 3 := getE_len (by rw [List.length_take, secs_length]; decide)
theorem new_rb (w : World) (e : TypeId) (l : List UInt8) (cs : Array Value) (fr : Nat × Nat) (h : cs = (by8 l).toArray) : Rb (w.alloc (.cells cs e fr)) (some ⟨w.heap.size, 0, none⟩) l.length l := by
  subst h
  refine ⟨by simp [by8_length], fun _ => ⟨_, 0, rfl, fun j u hu => ?_⟩⟩
  have hh : (w.alloc (.cells (by8 l).toArray e fr)).heap[w.heap.size]? = some (.cells (by8 l).toArray e fr) := heap_alloc_new w _
  rw [cell_of_row _ _ _ _ _ _ hh, ← hu]
  simp
theorem kconst (w : World) (g : Nat) (hg : g = w.heap.size) (C : Array Value) (n c : Nat) :
    (convert 22 22 (.slice (some ⟨g, 0, none⟩) n c)).run Try.prog (w.alloc (.cells C 5)) = .ok (.slice (some ⟨g, 0, none⟩) n c) (w.alloc (.cells C 5 (C.size, C.size + 1))) := by
  subst hg
  exact Lib.run_convert_bytes_const (P := Try.prog) w 22 5 C n c Try.underlying22 Try.underlying5

set_option maxRecDepth 4000 in
set_option maxHeartbeats 8000000 in
theorem awake_any (w : World) : Calls Try.prog 7 #[] w fun e w' => e = .returned (.bool true) ∧ Below w.heap.size w w' := by
  have kc := fun (w : World) (C : Array Value) (n c : Nat) => kconst w w.heap.size rfl C n c
  go_enter Try.func7, Try.ntmps7
  go_wp2_with (first
    | (go_at_call 8
       refine (put_any 5 _ _ _ ab _ (new_rb w 5 ab _ _ rfl)).mono ?_
       intro e w1 hp
       obtain ⟨b, o, c, rfl, hlt, hc4, hrr, hb1⟩ := laid_of (m := 5) (by omega) (by omega) (by decide) hp
       obtain ⟨A0, n0, q0, c0, r0, hq0⟩ := hrr.cell_ (k := 0) (by omega)
       obtain ⟨A3, n3, q3, c3, r3, hq3⟩ := hrr.cell_ (k := 3) (by omega)
       rw [Nat.add_zero] at c0
       rw [nth_secs 5 ab 4 0 (by omega)] at r0
       rw [nth_secs 5 ab 4 3 (by omega)] at r3
       have HR := hide hrr
       have R0 := hide r0
       have R3 := hide r3
       obtain rfl : n0 = 256 := by rw [← r0.len, sec_length 5 ab 0 (by decide) (by omega)]
       obtain ⟨bA, oA, rfl, _⟩ := r0.at_ (by omega)
       clear hp hrr r0 r3)
    | (go_at_call_of 12 (Value.slice (some ⟨b, o, none⟩) 4 c)
       refine (get_any _ 4 c _ _ HR.out).mono ?_
       rintro e w2 ⟨AB, nB, cB, rfl, hrB, _, hb2⟩
       rw [(got (n := 5) (l := ab) (by omega) (by omega) (by decide)).1, (got (n := 5) (l := ab) (by omega) (by omega) (by decide)).2.1]
       rw [(got (n := 5) (l := ab) (by omega) (by omega) (by decide)).2.2] at hrB
       have RB := hide hrB
       have c02 := (hb2.cell (p := ⟨b, o, none⟩) hlt).trans c0
       have c32 := (hb2.cell (p := ⟨b, o + 3, none⟩) hlt).trans c3
       clear hrB)
    | (go_at_call 14
       refine (stamp_any A3 n3 q3 (sec 5 ab 3) _ hq3 (R3.out.below hb2)).mono ?_
       rintro e w3 ⟨rfl, hb3⟩
       rw [(stamp_sec (n := 5) (l := ab) (by omega) (by omega) (by decide) 3 (by omega)).1, (stamp_sec (n := 5) (l := ab) (by omega) (by omega) (by decide) 3 (by omega)).2]
       have hb23 := Below.then_ hb2 hb3
       have c03 := (hb23.cell (p := ⟨b, o, none⟩) hlt).trans c0
       have HR3 := hide (HR.out.below hb23)
       clear c02 c32 c3)
    | (go_at_call_of 12 (Value.slice (some ⟨b, o, none⟩) 3 c)
       have hx := HR3.out.hi_ 3 c (by omega) hc4
       rw [cutA_at b o c 0 (by omega), Nat.add_zero] at hx
       refine (get_any _ 3 c _ _ hx).mono ?_
       clear hx
       rintro e w4 ⟨AC, nC, cC, rfl, _, _, hb4⟩
       rw [ab_three]
       have hb24 := Below.then_ hb23 hb4
       have c04 := (hb24.cell (p := ⟨b, o, none⟩) hlt).trans c0
       have HR4 := hide (HR.out.below hb24)
       have RB4 := hide (RB.out.below (Below.then_ hb3 hb4))
       have RC4 := hide ((R0.out.below hb24).lohi_ 7 14 q0 (by omega) (by omega) hq0)
       have slC := run_lohi slice22 size5 (some ⟨bA, oA, none⟩) 256 q0 7 14 7 14 rfl rfl (by omega) (by omega)
       have RD4 := hide (R0.out.below hb24)
       clear c03)
    | ((with_reducible show wpList _ _ _ (⟨some 59, _, _, _, _, _⟩ :: _) _ _)
       refine wpList_cv rfl (.tmp 58) 22 5 9 rfl Try.underlying22 Try.underlying5 Try.underlying9 _ _ _ rfl ab RB4.out ?_)
    | (go_at_call 16
       have hx := HR4.out.lo_ 1 c (by omega) hc4
       rw [cutA_at b o c 1 (by omega)] at hx
       refine (seen_any _ 3 _ _ _ (by omega) hx).mono ?_
       clear hx
       rintro e w5 ⟨rfl, hb5⟩
       rw [ab_seen]
       have hb25 := Below.then_ hb24 hb5
       have c05 := (hb25.cell (p := ⟨b, o, none⟩) hlt).trans c0
       have RC5 := hide (RC4.out.below hb5)
       have cd5 : w5.cell? ⟨bA, oA + 255, none⟩ = some (.int .u8 5) := by
         rw [(RD4.out.below hb5).cell_ (k := 255) (by omega), ab_last]; rfl
       clear c04)
    | ((with_reducible show wpList _ _ _ (⟨some 84, _, _, _, _, _⟩ :: _) _ _)
       refine wpList_cv rfl (.tmp 83) 22 5 9 rfl Try.underlying22 Try.underlying5 Try.underlying9 _ _ _ rfl [5, 0, 0, 2, 97, 98, 0] (by rw [← ab_cut]; exact RC5.out) ?_))
  go_ret
  exact ⟨rfl, Below.then_ (Below.then_ (Below.al (Below.refl _ _) _) hb1) hb25⟩
end Go.Proofs.Ytelhjficggoliaa
