/- The walks of the laws CrcbOfs, CrcbTails and CrcbTurned: each is true in every world, and leaves what was there. -/
import Derived.Test.YtkgpijojamidiaaWd
import Derived.Deep.RegionWith
namespace Go.Proofs.Ytkgpijojamidiaa
open Go.RowKit

set_option maxHeartbeats 2000000 in
theorem ofs_any (A : Option Addr) (n c : Nat) (x : Int) (l : List UInt8) (w : World) (hnc : n ≤ c) (_hc : c ≤ 9223372036854775807) (h : Rb w A n l) (h0 : 0 ≤ x) (h1 : x ≤ 65535) :
    Calls Try.prog 3 #[.slice A n c, .int .u16 x] w fun e w' => e = .returned (.bool true) ∧ Below w.heap.size w w' := by
  by_cases hbig : 1500 < n
  · have H := hide h
    clear h
    go_enter Try.func3, Try.ntmps3
    go_wp2_with (go_at_call 8; refine (awake_any _).mono ?_; rintro e w1 ⟨rfl, hb⟩)
    go_ret
    exact ⟨rfl, hb⟩
  · obtain ⟨k, hk⟩ : ∃ k : Nat, x % ((n : Int) + 1) = k := ⟨(x % ((n : Int) + 1)).toNat, by have := Int.emod_nonneg x (show ((n : Int) + 1) ≠ 0 by omega); omega⟩
    have hkn : k ≤ n := by have := Int.emod_lt_of_pos x (show 0 < (n : Int) + 1 by omega); omega
    have s1 := run_hi slice22 size5 A n c k k rfl (by omega)
    have s2 := run_lo slice22 size5 A n c k k rfl (by omega)
    have R := hide h
    have R1 := hide (h.hi_ k c (by omega) hnc)
    have R2 := hide (h.lo_ k c (by omega) hnc)
    have e2 : U (upd (crc (l.take k)) (l.drop k)) = U (crc l) := by
      have := upd_upd 0#32 (l.take k) (l.drop k)
      rw [List.take_append_drop] at this
      exact congrArg U this
    clear h
    go_enter Try.func3, Try.ntmps3
    go_wp2_with (go_at_call 9; refine (refOf_any _ _ _ l _ (by omega) R.out).mono ?_; rintro e w' ⟨rfl, rfl⟩)
    go_region_held3 (fun _ => True) (trivial)
      (first
        | (go_at_call 10; refine (of_any _ _ _ l _ (by omega) ?_).mono ?_; exact R.out; rintro e w' ⟨rfl, rfl⟩)
        | (go_at_call 10; refine (of_any _ _ _ (l.take k) _ (by omega) ?_).mono ?_; exact R1.out; rintro e w' ⟨rfl, rfl⟩)
        | (go_at_call 11; refine (update_any _ (crc (l.take k)) rfl _ _ _ (l.drop k) _ (by omega) ?_).mono ?_; exact R2.out; rintro e w' ⟨rfl, rfl⟩)
        | (go_at_call 8; refine (awake_any _).mono ?_; rintro e w1 ⟨rfl, hb⟩))
    go_wp2_with fail
    go_ret
    exact ⟨rfl, ((Below.refl _ _).drew).trans hb⟩

theorem xorU (a b : W32) : bits .xor .u32 (U a) (U b) = U (a ^^^ b) := xor_bits a b
theorem U_inj {a b : W32} (h : U a = U b) : a = b := by
  apply BitVec.eq_of_toNat_eq
  unfold U at h
  omega
theorem tails_one (a b t : List UInt8) (m : Nat) (hm : t.length = m) (hm3 : m ≤ 300) : (U (upd (crc a) t ^^^ upd (crc b) t) == U (stepN (8 * times (m : Int)) (crc a ^^^ crc b))) = true := by
  have ht : times (m : Int) = m := by unfold times; omega
  rw [ht, upd_xor, hm, beq_self_eq_true]
theorem tails_two (a b t : List UInt8) : ((U (upd (crc a) t) == U (upd (crc b) t)) == (U (crc a) == U (crc b))) = true := by
  rw [beq_iff_eq, Bool.eq_iff_iff, beq_iff_eq, beq_iff_eq]
  constructor
  · intro h; rw [(upd_eq_iff _ _ _).1 (U_inj h)]
  · intro h; rw [U_inj h]

set_option maxHeartbeats 2000000 in
theorem tails_any (A : Option Addr) (na ca : Nat) (la : List UInt8) (B : Option Addr) (nb cb : Nat) (lb : List UInt8) (T : Option Addr) (nt ct : Nat) (lt : List UInt8) (w : World)
    (hac : na ≤ ca) (hbc : nb ≤ cb) (_hma : na ≤ 9223372036854775807) (_hmb : nb ≤ 9223372036854775807) (hmt : nt ≤ 9223372036854775807)
    (ha : Rb w A na la) (hb : Rb w B nb lb) (ht : Rb w T nt lt) :
    Calls Try.prog 7 #[.slice A na ca, .slice B nb cb, .slice T nt ct] w fun e w' => e = .returned (.bool true) ∧ Below w.heap.size w w' := by
  obtain ⟨m, hm⟩ : ∃ m : Nat, (m : Int) = if (nb : Int) < na then (nb : Int) else na := by
    by_cases h : nb < na
    · exact ⟨nb, by rw [if_pos (by omega)]⟩
    · exact ⟨na, by rw [if_neg (by omega)]⟩
  have hma' : m ≤ na := by split at hm <;> omega
  have hmb' : m ≤ nb := by split at hm <;> omega
  have hmin : ∀ w, (Builtin.min_ #[3, 3] 3 #[.int .i64 (na : Int), .int .i64 (nb : Int)]).run Try.prog w = .ok (.int .i64 (m : Int)) w := fun w => by
    rw [run_min_int2, ← hm]
  clear hm
  by_cases h1 : 300 < m
  · have d1 : decide (300 < (m : Int)) = true := by simp; omega
    have HA := hide ha
    have HB := hide hb
    have HT := hide ht
    clear ha hb ht h1
    go_enter Try.func7, Try.ntmps7
    go_wp2_with (go_at_call 8; refine (awake_any _).mono ?_; rintro e w1 ⟨rfl, hb⟩)
    go_ret
    exact ⟨rfl, hb⟩
  · have d1 : decide (300 < (m : Int)) = false := by simp; omega
    by_cases h2 : 300 < nt
    · have d2 : decide (300 < (nt : Int)) = true := by simp; omega
      have HA := hide ha
      have HB := hide hb
      have HT := hide ht
      clear ha hb ht h1 h2
      go_enter Try.func7, Try.ntmps7
      go_wp2_with (go_at_call 8; refine (awake_any _).mono ?_; rintro e w1 ⟨rfl, hb⟩)
      go_ret
      exact ⟨rfl, hb⟩
    · have d2 : decide (300 < (nt : Int)) = false := by simp; omega
      have s1 := run_hi slice22 size5 A na ca m m rfl (by omega)
      have s2 := run_hi slice22 size5 B nb cb m m rfl (by omega)
      have RA := hide (ha.hi_ m ca (by omega) hac)
      have RB := hide (hb.hi_ m cb (by omega) hbc)
      have RT := hide ht
      have k1 := tails_one (la.take m) (lb.take m) lt nt ht.len (by omega)
      have k2 := tails_two (la.take m) (lb.take m) lt
      have xb := xorU
      clear ha hb ht
      obtain ⟨a', ha'⟩ : ∃ X, X = la.take m := ⟨_, rfl⟩
      obtain ⟨b', hb'⟩ : ∃ X, X = lb.take m := ⟨_, rfl⟩
      rw [← ha'] at RA k1 k2
      rw [← hb'] at RB k1 k2
      clear ha' hb'
      go_enter Try.func7, Try.ntmps7
      go_wp2_with fail
      go_region_held3 (fun _ => True) (trivial)
        (first
          | (go_at_call 10; refine (of_any _ _ _ a' _ (by omega) ?_).mono ?_; exact RA.out; rintro e w' ⟨rfl, rfl⟩)
          | (go_at_call 10; refine (of_any _ _ _ b' _ (by omega) ?_).mono ?_; exact RB.out; rintro e w' ⟨rfl, rfl⟩))
      all_goals go_wp2_with (first
        | (go_at_call_of 11 (U (crc a')); refine (update_any _ (crc a') rfl _ _ _ lt _ (by omega) ?_).mono ?_; exact RT.out; rintro e w' ⟨rfl, rfl⟩)
        | (go_at_call_of 11 (U (crc b')); refine (update_any _ (crc b') rfl _ _ _ lt _ (by omega) ?_).mono ?_; exact RT.out; rintro e w' ⟨rfl, rfl⟩)
        | (go_at_call 16; refine (shift_any _ _ (crc a' ^^^ crc b') rfl _).mono ?_; rintro e w' ⟨rfl, rfl⟩)
        | (go_at_call 8; refine (awake_any _).mono ?_; rintro e w1 ⟨rfl, hb⟩))
      go_ret
      exact ⟨rfl, ((Below.refl _ _).drew).trans hb⟩

/-- What is not what was sealed is told so. -/
theorem open_code (A : Option Addr) (N c : Nat) (size k : Int) (hs : size = N) (l : List UInt8) (w : World) (hnc : N ≤ c) (h : Rb w A N l) (hk : openS l N = ([], k)) :
    Calls Try.prog 14 #[.slice A N c, .int .i64 size] w fun e w' => ∃ A' n' c', e = .returned (.tuple #[.slice A' n' c', .int .i64 k]) ∧ Below w.heap.size w w' := by
  subst hs
  refine (open_any A N c N l w hnc h).mono fun e w' hh => ?_
  rw [hk] at hh
  obtain ⟨A', n', c', he, _, hb⟩ := hh
  exact ⟨A', n', c', he, hb⟩
theorem u8_xor_of (q d : UInt8) (y : Int) (hy : y = (d.toNat : Int)) : bits .xor .u8 (q.toNat : Int) y = ((q ^^^ d).toNat : Int) := by
  subst hy
  rw [u8_xor_nat _ _ q.toNat_lt d.toNat_lt, UInt8.toNat_xor]

set_option maxHeartbeats 4000000 in
theorem turned_any (A : Option Addr) (n c : Nat) (x y : Int) (l : List UInt8) (w : World) (_hnc : n ≤ c) (h : Rb w A n l) (hx0 : 0 ≤ x) (hx1 : x ≤ 65535) (hy0 : 0 ≤ y) (hy1 : y ≤ 255) :
    Calls Try.prog 6 #[.slice A n c, .int .u16 x, .int .u8 y] w fun e w' => e = .returned (.bool true) ∧ Below w.heap.size w w' := by
  have H := hide h
  have hll := hide h.len
  clear h
  by_cases hbig : 500 < n
  · go_enter Try.func6, Try.ntmps6
    go_wp2_with (go_at_call 8; refine (awake_any _).mono ?_; rintro e w1 ⟨rfl, hb⟩)
    go_ret
    exact ⟨rfl, hb⟩
  · obtain ⟨i, hi⟩ : ∃ i : Nat, i = (x % 520).toNat := ⟨_, rfl⟩
    have hi2 : i < 520 := by omega
    obtain ⟨d, hd⟩ : ∃ d : UInt8, 1 + y % 255 = (d.toNat : Int) := ⟨UInt8.ofNat (1 + y % 255).toNat, by rw [UInt8.toNat_ofNat']; omega⟩
    have hd0 : d ≠ 0 := by rintro rfl; simp at hd; omega
    obtain ⟨S, hS⟩ : ∃ S, S = sealL l 520 := ⟨_, rfl⟩
    have hSl : S.length = 520 := by rw [hS]; exact sealL_length l 520 (by rw [hll.out]; omega)
    obtain ⟨q, hq⟩ : ∃ q, q = S.getD i 0 := ⟨_, rfl⟩
    have hok : openS (S.set i (q ^^^ d)) (520 : Nat) = ([], 10) := by
      refine open_turned S 520 i (q ^^^ d) hSl (by omega) (by omega) (by omega) ?_ (by rw [hS]; rfl)
      rw [hq, getD_lt S i (by omega)]
      exact xor_ne _ _ hd0
    have HX := hide (u8_xor_of q d _ hd)
    have HI := hide hi
    have HOK := hide hok
    have HS := hide hS
    have HQ := hide hq
    have HL := hide hSl
    clear hok hS hq hSl hd0 hd hi
    go_enter Try.func6, Try.ntmps6
    go_wp2_with (first
      | (go_at_call 12; refine (seal_at _ _ _ _ l 520 rfl _ (by omega) (by omega) (by omega) ?_).mono ?_; exact H.out; rintro e w1 ⟨g, rfl, hg, hv, hb1⟩; have V1 := hide hv; clear hv)
      | (go_at_call 14; refine (open_sealed _ 520 _ _ rfl l _ (by rw [hll.out]; omega) (by omega) (by omega) ?_).mono ?_; exact sealed_rb V1.out (by rw [hll.out]; omega); rintro e w2 ⟨A2, c2, rfl, hr2, hb2⟩; have R2 := hide hr2; clear hr2; have V2 := hide (V1.out.below hb2 V1.out.lt); have cc : w2.cell? ⟨g, (x % 520).toNat, none⟩ = some (.int .u8 (q.toNat : Int)) := by { rw [V2.out.cell, ← HS.out, ← HI.out, HQ.out]; exact by8_get _ _ (by rw [HL.out]; exact hi2) }; have ff := V2.out.frozen (x % 520).toNat)
      | ((with_reducible show wpList _ _ _ (⟨some 36, _, _, _, _, _⟩ :: _) _ _)
         refine wpList_cv rfl (.tmp 35) 22 5 9 rfl Try.underlying22 Try.underlying5 Try.underlying9 _ _ _ rfl l R2.out ?_)
      | ((with_reducible show wpList _ _ _ (⟨some 38, _, _, _, _, _⟩ :: _) _ _)
         refine wpList_cv rfl (.tmp 37) 22 5 9 rfl Try.underlying22 Try.underlying5 Try.underlying9 _ _ _ rfl l (H.out.below (Below.then_ hb1 hb2)) ?_))
    refine (open_code _ 520 _ _ 10 rfl (S.set i (q ^^^ d)) _ (by omega) ?_ HOK.out).mono ?_
    · have V3 := V2.out.set_ (x % 520).toNat (.int .u8 (bits .xor .u8 (q.toNat : Int) (1 + y % 255)))
      rw [HX.out, set_by8, ← HS.out, ← HI.out] at V3
      rw [← HI.out, HX.out]
      exact V3.rd 1 520 (by rw [by8_length, List.length_set, HL.out])
    rintro e w4 ⟨A4, n4, c4, rfl, hb4⟩
    go_wp2_with (go_at_call 8; refine (awake_any _).mono ?_; rintro e w5 ⟨rfl, hb5⟩)
    go_ret
    have hb2' := Below.then_ hb1 hb2
    exact ⟨rfl, Below.then_ (Below.then_ (hb2'.setCell (p := ⟨g, (x % 520).toNat, none⟩) hg _) hb4) hb5⟩

end Go.Proofs.Ytkgpijojamidiaa
