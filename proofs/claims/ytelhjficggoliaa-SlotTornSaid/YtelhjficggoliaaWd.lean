/- The walk of the reference's Stamp, for any bytes. -/
import Derived.Test.YtelhjficggoliaaWc
namespace Go.Proofs.Ytelhjficggoliaa
open Go.RowKit

theorem quietL {P : Program} {f : FuncId} {args : Array Value} {w : World} {n : Nat} {v : Value}
    (h : Calls P f args (w.drewN n) fun e w' => e = .returned v ∧ w.drewN n = w') : Calls P f args (w.drewN n) fun e w'' => e = .returned v ∧ ∃ m, w'' = w.drewN m :=
  h.mono fun _ _ ⟨he, hm⟩ => ⟨he, n, hm.symm⟩
theorem num_gen (l : List UInt8) : numI l < 1 ↔ genN l < 1 := by
  unfold numI genN; split <;> omega
theorem num_of_gen (l : List UInt8) (h : ¬ genN l < 1) : numI l = (genN l : Int) := by
  unfold numI genN at *; split at h <;> rename_i h'
  · rw [if_pos h', if_pos h']
  · omega

set_option maxHeartbeats 4000000 in
theorem rstamp_any (A : Option Addr) (n c : Nat) (l : List UInt8) (w : World) (hnc : n ≤ c) (h : Rb w A n l) :
    Calls Try.prog 15 #[.slice A n c] w (StampPost l w) := by
  have hlen := h.len
  by_cases hn : n = 256
  · subst hn
    have s1 := run_hi slice22 size5 A 256 c 8 8 rfl (by omega)
    have s2 := run_lo slice22 size5 A 256 c 248 248 rfl (by omega)
    have R1 := h.hi_ 8 c (by omega) hnc
    have R2 := h.lo_ 248 c (by omega) hnc
    have k1 := fun nq => conv_bytes (P := Try.prog) 22 5 9 Try.underlying22 Try.underlying5 Try.underlying9 c (show Rb (w.drewN nq) _ _ _ from R1)
    have k2 := fun nq => conv_bytes (P := Try.prog) 22 5 9 Try.underlying22 Try.underlying5 Try.underlying9 (c - 248) (show Rb (w.drewN nq) _ _ _ from R2)
    have e1 : endF l = l.take 8 := by unfold endF; rw [if_pos hlen]
    have e2 : endL l = l.drop 248 := by unfold endL; rw [if_pos hlen]
    have hB : stampB l = ((l.take 8 == l.drop 248) && decide (1 ≤ genN (l.take 8))) := by
      unfold stampB; rw [e1, e2, decide_eq_true hlen, Bool.true_and]
    have hN : stampN l = if stampB l then genN (l.take 8) else 0 := by unfold stampN; rw [e1]
    obtain ⟨f, hf⟩ : ∃ f, f = l.take 8 := ⟨_, rfl⟩
    obtain ⟨g, hg⟩ : ∃ g, g = l.drop 248 := ⟨_, rfl⟩
    rw [← hf] at k1 R1 hB hN
    rw [← hg] at k2 hB
    obtain ⟨q, hq⟩ : ∃ q, (f == g) = q := ⟨_, rfl⟩
    rw [hq] at hB
    have HB := hide hB
    have HN := hide hN
    have HR := hide R1
    clear hB hN R1 R2 e1 e2 hf hg h hlen
    cases q
    · have hq2 : (!(f == g)) = true := by rw [hq]; rfl
      have HB' := hide (show stampB l = false by rw [HB.out]; rfl)
      have HN' := hide (show stampN l = 0 by rw [HN.out, HB'.out]; rfl)
      go_enter Try.func15, Try.ntmps15
      go_wp2_with fail
      go_quiet (fail)
      go_wp2_with fail
      go_ret2
      exact ⟨by rw [HB'.out, HN'.out]; rfl, Below.drewN' (Below.refl _ _) _⟩
    · have hq2 : (!(f == g)) = false := by rw [hq]; rfl
      by_cases hz : genN f < 1
      · have hd : decide (numI f < 1) = true := decide_eq_true ((num_gen f).2 hz)
        have HB' := hide (show stampB l = false by rw [HB.out]; simp; omega)
        have HN' := hide (show stampN l = 0 by rw [HN.out, HB'.out]; rfl)
        clear hz
        go_enter Try.func15, Try.ntmps15
        go_wp2_with fail
        go_quiet ((go_at_call 25; exact quietL (number_any _ _ f _ (HR.out.drewN _))))
        go_wp2_with fail
        go_ret2
        exact ⟨by rw [HB'.out, HN'.out]; rfl, Below.drewN' (Below.refl _ _) _⟩
      · have hd : decide (numI f < 1) = false := decide_eq_false (fun h => hz ((num_gen f).1 h))
        have HB' := hide (show stampB l = true by rw [HB.out]; simp; omega)
        have HN' := hide (show stampN l = genN f by rw [HN.out, HB'.out]; rfl)
        have HG := hide (num_of_gen f hz)
        clear hz
        go_enter Try.func15, Try.ntmps15
        go_wp2_with fail
        go_quiet ((go_at_call 25; exact quietL (number_any _ _ f _ (HR.out.drewN _))))
        go_wp2_with (go_at_call 25; refine (number_any _ _ f _ ?_).mono ?_; exact HR.out.drewN _; rintro e w' ⟨rfl, rfl⟩)
        go_ret2
        exact ⟨by rw [HB'.out, HN'.out, ← HG.out]; rfl, Below.drewN' (Below.refl _ _) _⟩
  · have hd : ((n : Int) != 256) = true := by rw [bne_iff_ne]; omega
    have HB := hide (show stampB l = false by unfold stampB; rw [decide_eq_false (by omega)]; rfl)
    have HN := hide (show stampN l = 0 by unfold stampN; rw [HB.out]; rfl)
    clear h hlen
    go_enter Try.func15, Try.ntmps15
    go_wp2_with fail
    go_quiet (fail)
    go_wp2_with fail
    go_ret2
    exact ⟨by rw [HB.out, HN.out]; rfl, Below.drewN' (Below.refl _ _) _⟩

end Go.Proofs.Ytelhjficggoliaa
