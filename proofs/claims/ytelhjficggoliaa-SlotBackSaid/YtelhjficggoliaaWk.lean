/- The walk of the reference's Seen. -/
import Derived.Test.YtelhjficggoliaaWj
namespace Go.Proofs.Ytelhjficggoliaa
open Go.RowKit

theorem max3I {P : Program} (x : Nat) (f g : List UInt8) (M : Nat) (hM : max (max x (genN f)) (genN g) = M) (w : World) : (Builtin.max_ #[3, 3, 3] 3 #[.int .i64 (x : Int), .int .i64 (numI f), .int .i64 (numI g)]).run P w = .ok (.int .i64 (M : Int)) w := by
  rw [run_max_int3]
  congr 2
  subst hM
  unfold numI genN
  repeat' split
  all_goals omega

theorem quietQ {P : Program} {f : FuncId} {args : Array Value} {w : World} {q n : Nat} {v : Value}
    (h : Calls P f args (w.drewN (q + n)) fun e w' => e = .returned v ∧ w.drewN (q + n) = w') : Calls P f args (w.drewN (q + n)) fun e w'' => e = .returned v ∧ ∃ m, w'' = w.drewN (q + m) :=
  h.mono fun _ _ ⟨he, hm⟩ => ⟨he, n, hm.symm⟩
set_option maxRecDepth 4000 in
set_option maxHeartbeats 8000000 in
theorem rseen_any (A : Option Addr) (n c : Nat) (L : List (List UInt8)) (w : World) (hn : (n : Int) ≤ 9223372036854775807) (h : Rbb w A n L) :
    Calls Try.prog 17 #[.slice A n c] w fun e w' => e = .returned (.int .i64 (seenK L n : Nat)) ∧ Below w.heap.size w w' := by
  have H := hide h
  clear h
  go_enter Try.func17, Try.ntmps17
  go_wp2_with fail
  go_loopw [3, 4] (fun s i wr => ∃ k q : Nat, k ≤ n ∧ i = .int .i64 k ∧ s = .int .i64 (seenK L k : Nat) ∧ wr = w.drewN q) (fun _ i _ => n - (intOf i).toNat)
  case atStart => exact ⟨0, 0, Nat.zero_le _, rfl, rfl, rfl⟩
  case round =>
    obtain ⟨k, q, hk, rfl, rfl, rfl⟩ := hrel
    by_cases hlt : k < n
    · obtain ⟨b, o, Ak, nk, ck, rfl, hb, hck, hrk, hnck, _⟩ := H.out.at_ hlt
      obtain ⟨l, hl⟩ : ∃ l, nth L k = l := ⟨_, rfl⟩
      rw [show L.getD k [] = l from hl] at hrk
      have hlen := hrk.len
      by_cases h256 : nk = 256
      · subst h256
        have HS := hide (show seenK L (k + 1) = max (max (seenK L k) (genN (l.take 8))) (genN (l.drop 248)) by rw [seenK, hl, if_pos hlen]; unfold endF endL; rw [if_pos hlen, if_pos hlen])
        have s1 := run_hi slice22 size5 Ak 256 ck 8 8 rfl (by omega)
        have s2 := run_lo slice22 size5 Ak 256 ck 248 248 rfl (by omega)
        have R1 := hide (show Rb w (cutA Ak ck 0) 8 (l.take 8) from hrk.hi_ 8 ck (by omega) hnck)
        have R2 := hide (show Rb w (cutA Ak ck 248) 8 (l.drop 248) from hrk.lo_ 248 ck (by omega) hnck)
        obtain ⟨f, hf⟩ : ∃ f, l.take 8 = f := ⟨_, rfl⟩
        obtain ⟨g, hg⟩ : ∃ g, l.drop 248 = g := ⟨_, rfl⟩
        rw [hf] at R1 HS
        rw [hg] at R2 HS
        obtain ⟨S, hS⟩ : ∃ S, seenK L k = S := ⟨_, rfl⟩
        rw [hS] at HS ⊢
        obtain ⟨M, hM⟩ : ∃ M, max (max S (genN f)) (genN g) = M := ⟨_, rfl⟩
        have hmax := max3I (P := Try.prog) S f g M hM
        rw [hM] at HS
        clear hM hS hf hg hl hlen hrk
        go_wp2_with fail
        go_quiet ((go_at_call 25; first | exact quietQ (number_any _ _ f _ (R1.out.drewN _)) | exact quietQ (number_any _ _ g _ (R2.out.drewN _))))
        go_wp2_with fail
        go_roundw
        case rel => exact ⟨k + 1, _, by omega, by go_num, by rw [HS.out], rfl⟩
        case measure => simp [intOf]; omega
      · have HS := hide (show seenK L (k + 1) = seenK L k by rw [seenK, hl, if_neg (by omega)])
        have hd : ((nk : Int) == 256) = false := by rw [beq_eq_false_iff_ne]; omega
        clear hl hlen hrk
        go_wp2_with fail
        go_roundw
        case rel => exact ⟨k + 1, q, by omega, by go_num, by rw [HS.out], rfl⟩
        case measure => simp [intOf]; omega
    · obtain rfl : k = n := by omega
      go_wp2_with fail
      go_ret
      exact ⟨rfl, Below.drewN' (Below.refl _ _) _⟩

end Go.Proofs.Ytelhjficggoliaa
