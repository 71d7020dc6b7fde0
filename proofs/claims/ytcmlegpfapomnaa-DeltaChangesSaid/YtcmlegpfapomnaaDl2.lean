/- The walk of keys. -/
import Derived.Test.YtcmlegpfapomnaaDl
namespace Go.Proofs.Ytcmlegpfapomnaa
open Go.RowKit Go.Instr
open Go.Op (bytesLess)

/-- Keys of both, rising, each once. -/
def kys : List Sx → List Sx → List Sx
  | [], [] => []
  | a :: xs, [] => a :: kys xs []
  | [], b :: ys => b :: kys [] ys
  | a :: xs, b :: ys => if bytesLess a b = true then a :: kys xs (b :: ys) else if bytesLess b a = true then b :: kys (a :: xs) ys else a :: kys xs ys
  termination_by xs ys => xs.length + ys.length
theorem kys_nn : kys [] [] = [] := by rw [kys]
theorem kys_an (a : Sx) (l : List Sx) : kys (a :: l) [] = a :: kys l [] := by rw [kys]
theorem kys_nb (b : Sx) (l : List Sx) : kys [] (b :: l) = b :: kys [] l := by rw [kys]
theorem kys_lt (a : Sx) (l : List Sx) (b : Sx) (r : List Sx) (h : bytesLess a b = true) : kys (a :: l) (b :: r) = a :: kys l (b :: r) := by rw [kys, if_pos h]
theorem kys_gt (a : Sx) (l : List Sx) (b : Sx) (r : List Sx) (h : bytesLess a b = false) (h2 : bytesLess b a = true) : kys (a :: l) (b :: r) = b :: kys (a :: l) r := by rw [kys, if_neg (by rw [h]; simp), if_pos h2]
theorem kys_eq (a : Sx) (l : List Sx) (b : Sx) (r : List Sx) (h : bytesLess a b = false) (h2 : bytesLess b a = false) : kys (a :: l) (b :: r) = a :: kys l r := by rw [kys, if_neg (by rw [h]; simp), if_neg (by rw [h2]; simp)]
theorem kys_len : ∀ (x y : List Sx), (kys x y).length ≤ x.length + y.length := by
  intro x y
  induction x, y using kys.induct with
  | case1 => simp [kys_nn]
  | case2 a l ih => rw [kys_an]; simp at *; omega
  | case3 b l ih => rw [kys_nb]; simp at *; omega
  | case4 a l b r h ih => rw [kys_lt _ _ _ _ h]; simp at *; omega
  | case5 a l b r h h2 ih => rw [kys_gt _ _ _ _ (by simpa using h) h2]; simp at *; omega
  | case6 a l b r h h2 ih => rw [kys_eq _ _ _ _ (by simpa using h) (by simpa using h2)]; simp at *; omega
set_option maxRecDepth 100000 in
set_option maxHeartbeats 8000000 in
theorem keys_any (A : Option Addr) (n c : Nat) (L : List Sx) (B : Option Addr) (m d : Nat) (M : List Sx) (w : World) (hs : n + m ≤ 500) (hA : Rs w A n L) (hB : Rs w B m M) :
    Calls Try.prog 42 #[.slice A n c, .slice B m d] w fun e w' => ∃ v, e = .returned v ∧ SS w' v (kys L M) ∧ Below w.heap.size w w' := by
  have HA := hide hA
  have HB2 := hide hB
  have HLA := hide hA.len
  have HLB := hide hB.len
  obtain ⟨R, hR⟩ : ∃ R, kys L M = R := ⟨_, rfl⟩
  rw [hR]
  have HR := hide hR
  clear hA hB hR
  go_enter Try.func42, Try.ntmps42
  go_wp2_with fail
  go_loopw [5, 6, 7] (fun s i k wr => ∃ (i' k' : Nat) (B : Option Addr) (d : Nat) (O : List Sx), i' ≤ n ∧ k' ≤ m ∧ i = .int .i64 i' ∧ k = .int .i64 k' ∧ s = .slice B O.length d ∧ wr.ownsRow w.heap.size 9 1 (.slice B O.length d) O.length (sts O) ∧ O.length ≤ i' + k' ∧ O ++ kys (L.drop i') (M.drop k') = R ∧ Below w.heap.size w wr) (fun _ i k _ => (n - (intOf i).toNat) + (m - (intOf k).toNat))
  case atStart => exact ⟨0, 0, none, 0, [], Nat.zero_le _, Nat.zero_le _, rfl, rfl, rfl, World.ownsRow_nil _ _ _ _, Nat.le_refl _, by have := HR.out; simpa using this, Below.refl _ _⟩
  case round =>
    obtain ⟨i, k, B, d, O, hi, hk, rfl, rfl, rfl, hown, hol, hR, hbr⟩ := hrel
    have OW := hide hown
    have HB := hide hbr
    have hsz := hbr.size
    have i0 : (0 : Int) ≤ (i : Int) := by omega
    have k0 : (0 : Int) ≤ (k : Int) := by omega
    clear hown
    by_cases hi' : i < n
    · by_cases hk' : k < m
      · have := hi'
        obtain ⟨b1, o1, rfl, hb1, g1⟩ := (HA.out.below hbr).at_ hi'
        obtain ⟨X, hX⟩ : ∃ X, nthS L i = X := ⟨_, rfl⟩
        have dA := drop_s L i (by rw [HLA.out]; exact hi')
        rw [hX] at dA
        rw [dA] at hR
        have DA := hide dA
        clear dA
        rw [hX] at g1
        clear hX hb1
        have in1 : (i : Int) < (n : Int) := by omega
        have in2 : ((i : Int) == (n : Int)) = false := by rw [beq_eq_false_iff_ne]; omega
        obtain ⟨b2, o2, rfl, hb2, g2⟩ := (HB2.out.below hbr).at_ hk'
        obtain ⟨Y, hY⟩ : ∃ Y, nthS M k = Y := ⟨_, rfl⟩
        have dB := drop_s M k (by rw [HLB.out]; exact hk')
        rw [hY] at dB
        rw [dB] at hR
        have DB := hide dB
        clear dB
        rw [hY] at g2
        clear hY hb2
        have km1 : (k : Int) < (m : Int) := by omega
        have km2 : ((k : Int) == (m : Int)) = false := by rw [beq_eq_false_iff_ne]; omega
        clear hbr this
        obtain ⟨p, hp⟩ : ∃ p, bytesLess X Y = p := ⟨_, rfl⟩
        cases p
        · obtain ⟨q, hq⟩ : ∃ q, bytesLess Y X = q := ⟨_, rfl⟩
          cases q
          · rw [kys_eq _ _ _ _ hp hq] at hR
            have KR := hide hR
            clear hR
            go_wp2_with fail
            go_quiet (fail)
            go_wp2_with fail
            go_quiet (fail)
            go_wp2_with (
              (with_reducible show wpList _ _ _ (⟨some 24, _, _, _, _, _⟩ :: _) _ _)
              go_loud (
              refine wpList_app rfl (.tmp 18) (.tmp 23) 36 rfl w.heap.size 9 (.string ⟨#[]⟩) 1 16 Try.underlying36 info9 rfl (by omega) B d O.length (sts O) rfl (OW.out.alloc _) _ 1 _ (sts [X]) rfl ((Vk.new wr 9 [.string ⟨X.toArray⟩]).rd 1 1 rfl) (sts_one _) (by unfold maxLen; omega) (by omega) (by simp; omega) ?_
              intro B' d' w' hown hgr hz
              have HY := hide ((Below.al (Below.drewN' HB.out _) _).grown hgr (Below.al (Below.drewN' HB.out _) _).size (fun j hj => by have := (own_lt OW.out j hj).1; omega))
              rw [← sts_app] at hown
              have OY := hide hown
              clear hown hgr hz))
            go_roundw
            case rel => exact ⟨i + 1, k + 1, B', d', O ++ [X], by omega, by omega, by go_num, by go_num, by simp, by simpa using OY.out, by simp; omega, by have := KR.out; simpa using this, HY.out⟩
            case measure => simp [intOf]; omega
          · rw [kys_gt _ _ _ _ hp hq, ← DA.out] at hR
            have KR := hide hR
            clear hR
            go_wp2_with fail
            go_quiet (fail)
            go_wp2_with fail
            go_quiet (fail)
            go_wp2_with (
              (with_reducible show wpList _ _ _ (⟨some 82, _, _, _, _, _⟩ :: _) _ _)
              go_loud (
              refine wpList_app rfl (.tmp 76) (.tmp 81) 36 rfl w.heap.size 9 (.string ⟨#[]⟩) 1 16 Try.underlying36 info9 rfl (by omega) B d O.length (sts O) rfl (OW.out.alloc _) _ 1 _ (sts [Y]) rfl ((Vk.new wr 9 [.string ⟨Y.toArray⟩]).rd 1 1 rfl) (sts_one _) (by unfold maxLen; omega) (by omega) (by simp; omega) ?_
              intro B' d' w' hown hgr hz
              have HY := hide ((Below.al (Below.drewN' HB.out _) _).grown hgr (Below.al (Below.drewN' HB.out _) _).size (fun j hj => by have := (own_lt OW.out j hj).1; omega))
              rw [← sts_app] at hown
              have OY := hide hown
              clear hown hgr hz))
            go_roundw
            case rel => exact ⟨i, k + 1, B', d', O ++ [Y], by omega, by omega, by go_num, by go_num, by simp, by simpa using OY.out, by simp; omega, by have := KR.out; simpa using this, HY.out⟩
            case measure => simp [intOf]; omega
        · rw [kys_lt _ _ _ _ hp, ← DB.out] at hR
          have KR := hide hR
          clear hR
          go_wp2_with fail
          go_quiet (fail)
          go_wp2_with (
            (with_reducible show wpList _ _ _ (⟨some 57, _, _, _, _, _⟩ :: _) _ _)
            go_loud (
            refine wpList_app rfl (.tmp 51) (.tmp 56) 36 rfl w.heap.size 9 (.string ⟨#[]⟩) 1 16 Try.underlying36 info9 rfl (by omega) B d O.length (sts O) rfl (OW.out.alloc _) _ 1 _ (sts [X]) rfl ((Vk.new wr 9 [.string ⟨X.toArray⟩]).rd 1 1 rfl) (sts_one _) (by unfold maxLen; omega) (by omega) (by simp; omega) ?_
            intro B' d' w' hown hgr hz
            have HY := hide ((Below.al (Below.drewN' HB.out _) _).grown hgr (Below.al (Below.drewN' HB.out _) _).size (fun j hj => by have := (own_lt OW.out j hj).1; omega))
            rw [← sts_app] at hown
            have OY := hide hown
            clear hown hgr hz))
          go_roundw
          case rel => exact ⟨i + 1, k, B', d', O ++ [X], by omega, by omega, by go_num, by go_num, by simp, by simpa using OY.out, by simp; omega, by have := KR.out; simpa using this, HY.out⟩
          case measure => simp [intOf]; omega
      · obtain rfl : k = m := by omega
        obtain ⟨b1, o1, rfl, hb1, g1⟩ := (HA.out.below hbr).at_ hi'
        obtain ⟨X, hX⟩ : ∃ X, nthS L i = X := ⟨_, rfl⟩
        have dA := drop_s L i (by rw [HLA.out]; exact hi')
        rw [hX] at dA
        rw [dA] at hR
        have DA := hide dA
        clear dA
        rw [hX] at g1
        clear hX hb1
        have in1 : (i : Int) < (n : Int) := by omega
        have in2 : ((i : Int) == (n : Int)) = false := by rw [beq_eq_false_iff_ne]; omega
        rw [List.drop_of_length_le (Nat.le_of_eq HLB.out), kys_an] at hR
        have KR := hide hR
        have ke : List.drop k M = [] := List.drop_of_length_le (Nat.le_of_eq HLB.out)
        rw [← ke] at KR
        clear hR hbr ke
        go_wp2_with fail
        go_quiet (fail)
        go_wp2_with (
          (with_reducible show wpList _ _ _ (⟨some 57, _, _, _, _, _⟩ :: _) _ _)
          go_loud (
          refine wpList_app rfl (.tmp 51) (.tmp 56) 36 rfl w.heap.size 9 (.string ⟨#[]⟩) 1 16 Try.underlying36 info9 rfl (by omega) B d O.length (sts O) rfl (OW.out.alloc _) _ 1 _ (sts [X]) rfl ((Vk.new wr 9 [.string ⟨X.toArray⟩]).rd 1 1 rfl) (sts_one _) (by unfold maxLen; omega) (by omega) (by simp; omega) ?_
          intro B' d' w' hown hgr hz
          have HY := hide ((Below.al (Below.drewN' HB.out _) _).grown hgr (Below.al (Below.drewN' HB.out _) _).size (fun j hj => by have := (own_lt OW.out j hj).1; omega))
          rw [← sts_app] at hown
          have OY := hide hown
          clear hown hgr hz))
        go_roundw
        case rel => exact ⟨i + 1, k, B', d', O ++ [X], by omega, by omega, by go_num, by go_num, by simp, by simpa using OY.out, by simp; omega, by have := KR.out; simpa using this, HY.out⟩
        case measure => simp [intOf]; omega
    · obtain rfl : i = n := by omega
      by_cases hk' : k < m
      · have := hk'
        obtain ⟨b2, o2, rfl, hb2, g2⟩ := (HB2.out.below hbr).at_ hk'
        obtain ⟨Y, hY⟩ : ∃ Y, nthS M k = Y := ⟨_, rfl⟩
        have dB := drop_s M k (by rw [HLB.out]; exact hk')
        rw [hY] at dB
        rw [dB] at hR
        have DB := hide dB
        clear dB
        rw [hY] at g2
        clear hY hb2
        have km1 : (k : Int) < (m : Int) := by omega
        have km2 : ((k : Int) == (m : Int)) = false := by rw [beq_eq_false_iff_ne]; omega
        rw [List.drop_of_length_le (Nat.le_of_eq HLA.out), kys_nb] at hR
        have KR := hide hR
        have ke : List.drop i L = [] := List.drop_of_length_le (Nat.le_of_eq HLA.out)
        rw [← ke] at KR
        clear hR hbr ke this
        go_wp2_with fail
        go_quiet (fail)
        go_wp2_with fail
        go_quiet (fail)
        go_wp2_with (
          (with_reducible show wpList _ _ _ (⟨some 82, _, _, _, _, _⟩ :: _) _ _)
          go_loud (
          refine wpList_app rfl (.tmp 76) (.tmp 81) 36 rfl w.heap.size 9 (.string ⟨#[]⟩) 1 16 Try.underlying36 info9 rfl (by omega) B d O.length (sts O) rfl (OW.out.alloc _) _ 1 _ (sts [Y]) rfl ((Vk.new wr 9 [.string ⟨Y.toArray⟩]).rd 1 1 rfl) (sts_one _) (by unfold maxLen; omega) (by omega) (by simp; omega) ?_
          intro B' d' w' hown hgr hz
          have HY := hide ((Below.al (Below.drewN' HB.out _) _).grown hgr (Below.al (Below.drewN' HB.out _) _).size (fun j hj => by have := (own_lt OW.out j hj).1; omega))
          rw [← sts_app] at hown
          have OY := hide hown
          clear hown hgr hz))
        go_roundw
        case rel => exact ⟨i, k + 1, B', d', O ++ [Y], by omega, by omega, by go_num, by go_num, by simp, by simpa using OY.out, by simp; omega, by have := KR.out; simpa using this, HY.out⟩
        case measure => simp [intOf]; omega
      · obtain rfl : k = m := by omega
        rw [List.drop_of_length_le (Nat.le_of_eq HLA.out), List.drop_of_length_le (Nat.le_of_eq HLB.out), kys_nn, List.append_nil] at hR
        have KR := hide hR
        clear hR
        go_wp2_with fail
        go_ret
        exact ⟨_, rfl, ⟨B, O.length, d, rfl, (own_capN OW.out).1, by rw [← KR.out]; exact Rs.of_own OW.out⟩, HB.out⟩
end Go.Proofs.Ytcmlegpfapomnaa
