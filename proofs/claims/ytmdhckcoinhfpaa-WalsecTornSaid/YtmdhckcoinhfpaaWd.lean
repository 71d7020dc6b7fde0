/- The walks of stamp, of bytes.Equal, of the comparisons. -/
import Derived.Test.YtmdhckcoinhfpaaWa
import Derived.Deep.RegionWith
import Derived.Deep.QuietTactic
import Derived.BigQuiet
namespace Go.Proofs.Ytmdhckcoinhfpaa
open Go.RowKit

def EightPost (n : Nat) (w : World) (e : Ending) (w' : World) : Prop := ∃ A c, e = .returned (.slice A 8 c) ∧ w'.ownsRow w.heap.size 5 1 (.slice A 8 c) 8 (by8 (be8 n)) ∧ Below w.heap.size w w'
set_option maxHeartbeats 2000000 in
theorem stamp_any (e a : Int) (hok : secOk e a) (w : World) : Calls Try.prog 27 #[.int .i64 e, .int .i64 a] w (EightPost (secN e a) w) := by
  obtain ⟨h1, h2, h3, h4⟩ := hok
  obtain ⟨n, hn⟩ : ∃ n : Nat, n = secN e a := ⟨_, rfl⟩
  have hea : 256 * e + a = (n : Int) := by rw [hn]; unfold secN; omega
  have hnb : n ≤ 4611686018427387904 := by omega
  rw [← hn]
  clear hn
  go_enter Try.func27, Try.ntmps27
  go_wp2_with fail

  clear hea
  go_loopw [6, 5, 7] (fun v b i wr => ∃ (k : Nat) (A : Option Addr) (c : Nat), k ≤ 8 ∧ i = .int .i64 k ∧ v = .int .i64 (sh n k : Nat) ∧ b = .slice A k c ∧ wr.ownsRow w.heap.size 5 1 (.slice A k c) k (by8 (eL n k)) ∧ Below w.heap.size w wr) (fun _ _ i _ => 8 - (intOf i).toNat)
  case atStart => exact ⟨0, none, 0, Nat.zero_le _, rfl, by simp [sh], rfl, World.ownsRow_nil _ _ _ _, Below.refl _ _⟩
  case round =>
    obtain ⟨k, A, c, hk, rfl, rfl, rfl, hown, hb⟩ := hrel
    have O := hide hown
    clear hown
    by_cases hlt : k < 8
    · have HE := hide (eL_succ n k hlt)
      have hs : sh n k ≤ n := Nat.div_le_self _ _
      go_wp2_with (first
        | ((with_reducible show wpList _ _ _ (⟨some 21, _, _, _, _, _⟩ :: _) _ _)
           refine wpList_app rfl (.tmp 19) (.tmp 20) 34 rfl w.heap.size 5 (.int .u8 0) 1 1 Try.underlying34 info5 rfl (by omega) _ _ 1 (by8 [UInt8.ofNat (sh n k)]) rfl (by rw [show (Value.int .u8 (((sh n k : Nat) : Int) % 256)) = .int .u8 ((UInt8.ofNat (sh n k)).toNat : Int) by simp]; exact (Vk.new wr 5 (by8 [UInt8.ofNat (sh n k)])).own hb.size rfl (by unfold maxLen; omega)) _ k _ (by8 (eL n k)) rfl ((Rd.of_own O.out).alloc _) (by8_one _) (by unfold maxLen; omega) (by omega) (by simp; have := hb.size; omega) ?_
           intro A1 c1 w1 hown hgr _
           rw [← by8_append, show [UInt8.ofNat (sh n k)] ++ eL n k = eL n (k + 1) from HE.out.symm, Nat.add_comm 1 k] at hown
           have O1 := hide hown
           have hb1 : Below w.heap.size w w1 := (Below.al hb _).grown hgr (by simp; have := hb.size; omega) (by intro j hj; simp [Value.ownBlock] at hj; have := hb.size; omega)
           clear hown hgr))
      go_roundw
      case rel => exact ⟨k + 1, A1, c1, by omega, by go_num, by rw [sh_succ]; rfl, by rw [Nat.add_comm 1 k], O1.out, hb1⟩
      case measure => simp [intOf]; omega
    · obtain rfl : k = 8 := by omega
      go_wp2_with fail
      go_ret
      exact ⟨A, c, rfl, O.out, hb⟩

set_option maxHeartbeats 1000000 in
theorem equal_any (A B : Option Addr) (n c m d : Nat) (l l' : List UInt8) (w : World) (h : Rb w A n l) (h' : Rb w B m l') :
    Calls Try.prog 25 #[.slice A n c, .slice B m d] w fun e w' => e = .returned (.bool (l == l')) ∧ w = w' := by
  have k1 := conv_bytes (P := Try.prog) 34 5 9 Try.underlying34 Try.underlying5 Try.underlying9 c h
  have k2 := conv_bytes (P := Try.prog) 34 5 9 Try.underlying34 Try.underlying5 Try.underlying9 d h'
  obtain ⟨q, hq⟩ : ∃ q, (l == l') = q := ⟨_, rfl⟩
  clear h h'
  rw [hq]
  go_enter Try.func25, Try.ntmps25
  go_wp2_with fail
  go_ret
  exact ⟨rfl, rfl⟩

theorem list_ext_getD {α : Type} (d : α) {a b : List α} (hl : a.length = b.length) (h : ∀ j, j < a.length → a.getD j d = b.getD j d) : a = b := by
  apply List.ext_getElem hl
  intro i h1 h2
  have := h i h1
  simpa [List.getD, h1, h2] using this

theorem getD_eq (L : List (List UInt8)) (k : Nat) (h : k < L.length) : L.getD k [] = L[k] := by simp [List.getD, h]
set_option maxHeartbeats 4000000 in
theorem same_any (A : Option Addr) (n c : Nat) (L : List (List UInt8)) (B : Option Addr) (m d : Nat) (M : List (List UInt8)) (w : World) (hn : (n : Int) ≤ 9223372036854775807) (h : Rbb w A n L) (h' : Rbb w B m M) :
    Calls Try.prog 11 #[.slice A n c, .slice B m d] w fun e w' => e = .returned (.bool (decide (L = M))) ∧ Below w.heap.size w w' := by
  have HL := hide h.1
  have HM := hide h'.1
  by_cases hnm : n = m
  · subst hnm
    have H := hide h
    have H' := hide h'
    clear h h'
    go_enter Try.func11, Try.ntmps11
    go_wp2_with fail
    go_loopw [4, 5] (fun _ i wr => ∃ k q : Nat, k ≤ n ∧ i = .int .i64 k ∧ wr = w.drewN q ∧ ∀ j, j < k → L.getD j [] = M.getD j []) (fun _ i _ => n - (intOf i).toNat)
    case atStart => exact ⟨0, 0, Nat.zero_le _, rfl, rfl, fun j hj => absurd hj (by omega)⟩
    case round =>
      obtain ⟨k, q, hk, rfl, rfl, heq⟩ := hrel
      have HE := hide heq
      clear heq
      by_cases hlt : k < n
      · obtain ⟨b1, o1, A1, n1, c1, rfl, hb1, hc1, hr1, _, _⟩ := H.out.at_ hlt
        obtain ⟨b2, o2, A2, n2, c2, rfl, hb2, hc2, hr2, _, _⟩ := H'.out.at_ hlt
        obtain ⟨l1, hl1⟩ : ∃ l1, l1 = L.getD k [] := ⟨_, rfl⟩
        obtain ⟨l2, hl2⟩ : ∃ l2, l2 = M.getD k [] := ⟨_, rfl⟩
        rw [← hl1] at hr1
        rw [← hl2] at hr2
        have k1 := fun nq => conv_bytes (P := Try.prog) 34 5 9 Try.underlying34 Try.underlying5 Try.underlying9 c1 (show Rb (w.drewN nq) _ _ _ from hr1)
        have k2 := fun nq => conv_bytes (P := Try.prog) 34 5 9 Try.underlying34 Try.underlying5 Try.underlying9 c2 (show Rb (w.drewN nq) _ _ _ from hr2)
        clear hr1 hr2
        have HL1 := hide hl1
        have HL2 := hide hl2
        clear hl1 hl2
        by_cases he : l1 = l2
        · have hq : (!(l1 == l2)) = false := by simp [he]
          have HQ := hide he
          clear he
          go_wp2_with fail
          go_quiet (fail)
          go_wp2_with fail
          go_roundw
          case rel => exact ⟨k + 1, q + nq, by omega, by go_num, rfl, fun j hj => by
            rcases Nat.lt_or_ge j k with h1 | h1
            · exact HE.out j h1
            · obtain rfl : j = k := by omega
              rw [← HL1.out, ← HL2.out, HQ.out]⟩
          case measure => simp [intOf]; omega
        · have hq : (!(l1 == l2)) = true := by simp [he]
          have HQ := hide (show decide (L = M) = false by
            refine decide_eq_false fun e => he ?_
            rw [HL1.out, HL2.out, e])
          clear he
          go_wp2_with fail
          go_quiet (fail)
          go_wp2_with fail
          go_ret
          exact ⟨by rw [HQ.out] <;> rfl, Below.drewN' (Below.drewN' (Below.refl _ _) _) _⟩
      · obtain rfl : k = n := by omega
        have HQ := hide (show decide (L = M) = true from decide_eq_true (list_ext_getD [] (by rw [HL.out, HM.out]) (fun j hj => HE.out j (by rw [HL.out] at hj; exact hj))))
        go_wp2_with fail
        go_ret
        exact ⟨by rw [HQ.out] <;> rfl, Below.drewN' (Below.refl _ _) _⟩
  · have hd : ((n : Int) != (m : Int)) = true := by rw [bne_iff_ne]; omega
    have HQ := hide (show decide (L = M) = false from decide_eq_false fun e => hnm (by rw [← HL.out, ← HM.out, e]))
    clear h h'
    go_enter Try.func11, Try.ntmps11
    go_wp2_with fail
    go_ret
    exact ⟨by rw [HQ.out] <;> rfl, Below.refl _ _⟩

set_option maxHeartbeats 4000000 in
theorem sames_any (A : Option Addr) (n c : Nat) (L : List Tx) (B : Option Addr) (m d : Nat) (M : List Tx) (w : World) (hn : (n : Int) ≤ 9223372036854775807) (h : Rs w A n L) (h' : Rs w B m M) :
    Calls Try.prog 16 #[.slice A n c, .slice B m d] w fun e w' => e = .returned (.bool (decide (L = M))) ∧ Below w.heap.size w w' := by
  have HL := hide h.len
  have HM := hide h'.len
  by_cases hnm : n = m
  · subst hnm
    have H := hide h
    have H' := hide h'
    clear h h'
    go_enter Try.func16, Try.ntmps16
    go_wp2_with fail
    go_loopw [4, 5] (fun _ i wr => ∃ k q : Nat, k ≤ n ∧ i = .int .i64 k ∧ wr = w.drewN q ∧ ∀ j, j < k → nthT L j = nthT M j) (fun _ i _ => n - (intOf i).toNat)
    case atStart => exact ⟨0, 0, Nat.zero_le _, rfl, rfl, fun j hj => absurd hj (by omega)⟩
    case round =>
      obtain ⟨k, q, hk, rfl, rfl, heq⟩ := hrel
      have HE := hide heq
      clear heq
      by_cases hlt : k < n
      · obtain ⟨b1, o1, rfl, hb1, hc1⟩ := H.out.at_ hlt
        obtain ⟨b2, o2, rfl, hb2, hc2⟩ := H'.out.at_ hlt
        obtain ⟨l1, hl1⟩ : ∃ l1, l1 = nthT L k := ⟨_, rfl⟩
        obtain ⟨l2, hl2⟩ : ∃ l2, l2 = nthT M k := ⟨_, rfl⟩
        rw [show nthT L k = l1 from hl1.symm] at hc1
        rw [show nthT M k = l2 from hl2.symm] at hc2
        have HL1 := hide hl1
        have HL2 := hide hl2
        clear hl1 hl2
        by_cases he : l1 = l2
        · have hq : (!(l1 == l2)) = false := by simp [he]
          have HQ := hide he
          clear he
          go_wp2_with fail
          go_quiet (fail)
          go_wp2_with fail
          go_roundw
          case rel => exact ⟨k + 1, q + nq, by omega, by go_num, rfl, fun j hj => by
            rcases Nat.lt_or_ge j k with h1 | h1
            · exact HE.out j h1
            · obtain rfl : j = k := by omega
              rw [← HL1.out, ← HL2.out, HQ.out]⟩
          case measure => simp [intOf]; omega
        · have hq : (!(l1 == l2)) = true := by simp [he]
          have HQ := hide (show decide (L = M) = false by
            refine decide_eq_false fun e => he ?_
            rw [HL1.out, HL2.out, e])
          clear he
          go_wp2_with fail
          go_quiet (fail)
          go_wp2_with fail
          go_ret
          exact ⟨by rw [HQ.out] <;> rfl, Below.drewN' (Below.drewN' (Below.refl _ _) _) _⟩
      · obtain rfl : k = n := by omega
        have HQ := hide (show decide (L = M) = true from decide_eq_true (list_ext_getD [] (by rw [HL.out, HM.out]) (fun j hj => HE.out j (by rw [HL.out] at hj; exact hj))))
        go_wp2_with fail
        go_ret
        exact ⟨by rw [HQ.out] <;> rfl, Below.drewN' (Below.refl _ _) _⟩
  · have hd : ((n : Int) != (m : Int)) = true := by rw [bne_iff_ne]; omega
    have HQ := hide (show decide (L = M) = false from decide_eq_false fun e => hnm (by rw [← HL.out, ← HM.out, e]))
    clear h h'
    go_enter Try.func16, Try.ntmps16
    go_wp2_with fail
    go_ret
    exact ⟨by rw [HQ.out] <;> rfl, Below.refl _ _⟩


theorem min_first {P : Program} (x y : Nat) (h : x ≤ y) (w : World) : (Builtin.min_ #[3, 3] 3 #[.int .i64 (x : Int), .int .i64 (y : Int)]).run P w = .ok (.int .i64 (x : Int)) w := by
  rw [run_min_int2, if_neg (by omega)]
set_option maxHeartbeats 2000000 in
theorem begins_yes (A : Option Addr) (n c : Nat) (L : List Tx) (B : Option Addr) (m d : Nat) (M : List Tx) (w : World) (hn : (n : Int) ≤ 9223372036854775807) (hnm : n ≤ m) (hmd : m ≤ d) (h : Rs w A n L) (h' : Rs w B m M) (hp : L = M.take n) :
    Calls Try.prog 19 #[.slice A n c, .slice B m d] w fun e w' => e = .returned (.bool true) ∧ Below w.heap.size w w' := by
  have H := hide h
  have H2 := hide (h'.hi_ n d hnm hmd)
  rw [← hp] at H2
  have S := hide (fun C c2 h => sames_any A n c L C n c2 L w hn H.out h)
  rw [decide_eq_true (rfl : L = L)] at S
  have sl := run_hi slice22 size9 B m d n n rfl (by omega)
  obtain ⟨Q, hQ⟩ : ∃ Q, cutA B d 0 = Q := ⟨_, rfl⟩
  rw [hQ] at H2 sl
  have hmin := min_first (P := Try.prog) n m hnm
  have hd : decide (n ≤ m) = true := by simp; omega
  clear h h' hp hQ
  go_enter Try.func19, Try.ntmps19
  go_wp2_with (go_at_call 16; refine (S.out _ _ H2.out).mono ?_; rintro e w1 ⟨rfl, hb⟩)
  go_ret
  exact ⟨rfl, hb⟩
end Go.Proofs.Ytmdhckcoinhfpaa
