/- The walks of find, change. -/
import Derived.Test.YtcmlegpfapomnaaDk
namespace Go.Proofs.Ytcmlegpfapomnaa
open Go.RowKit Go.Instr
open Go.Op (bytesLess)

/-- A key's value. -/
def fnd : List Pr → Sx → Option Sx
  | [], _ => none
  | p :: l, k => if (p.k == k) = true then some p.v else fnd l k
/-- A key's change. -/
def chg : List Ch → Sx → Option Ch
  | [], _ => none
  | p :: l, k => if (p.k == k) = true then some p else chg l k
theorem drop_p (L : List Pr) (k : Nat) (h : k < L.length) : L.drop k = nthP L k :: L.drop (k + 1) := by
  rw [List.drop_eq_getElem_cons h]
  simp [nthP, List.getD, h]
theorem drop_c (L : List Ch) (k : Nat) (h : k < L.length) : L.drop k = nthC L k :: L.drop (k + 1) := by
  rw [List.drop_eq_getElem_cons h]
  simp [nthC, List.getD, h]
theorem drop_s (L : List Sx) (k : Nat) (h : k < L.length) : L.drop k = nthS L k :: L.drop (k + 1) := by
  rw [List.drop_eq_getElem_cons h]
  simp [nthS, List.getD, h]
def fndV (o : Option Sx) : Value := .tuple #[.string ⟨(o.getD []).toArray⟩, .bool o.isSome]
def chgV (o : Option Ch) : Value := .tuple #[chV (o.getD ch0), .bool o.isSome]
set_option maxHeartbeats 4000000 in
theorem find_any (A : Option Addr) (n c : Nat) (L : List Pr) (x : Sx) (w : World) (hn : n ≤ 1000) (h : Rp w A n L) :
    Calls Try.prog 41 #[.slice A n c, .string ⟨x.toArray⟩] w fun e w' => e = .returned (fndV (fnd L x)) ∧ w = w' := by
  have H := hide h
  have HL := hide h.len
  clear h
  obtain ⟨F, hF⟩ : ∃ F, fnd L x = F := ⟨_, rfl⟩
  rw [hF]
  have HF := hide hF
  clear hF
  go_enter Try.func41, Try.ntmps41
  go_wp2_with fail
  go_loop [6] (fun i => ∃ k : Nat, k ≤ n ∧ i = .int .i64 k ∧ fnd (L.drop k) x = F) (fun i => n - (intOf i).toNat)
  case atStart => exact ⟨0, Nat.zero_le _, rfl, HF.out⟩
  case round =>
    obtain ⟨k, hk, rfl, hf⟩ := hrel
    by_cases hlt : k < n
    · obtain ⟨b, o, rfl, hb, g0, g1⟩ := H.out.at_ hlt
      rw [drop_p L k (by rw [HL.out]; exact hlt), fnd] at hf
      obtain ⟨T, hT⟩ : ∃ T, nthP L k = T := ⟨_, rfl⟩
      rw [hT] at g0 g1 hf
      obtain ⟨q, hq⟩ : ∃ q, (T.k == x) = q := ⟨_, rfl⟩
      rw [hq] at hf
      have HFF := hide hf
      have HQ := hide hq
      have kn : (k : Int) < (n : Int) := by omega
      have k0 : (0 : Int) ≤ (k : Int) := by omega
      clear hf hT hb
      cases q
      · go_wp2_with fail
        go_round
        case rel => exact ⟨k + 1, by omega, by go_num, by have := HFF.out; simpa using this⟩
        case measure => simp [intOf]; omega
      · go_wp2_with fail
        go_ret2
        refine ⟨?_, rfl⟩
        have e : some T.v = F := by simpa using HFF.out
        rw [← e]
        rfl
    · obtain rfl : k = n := by omega
      rw [List.drop_of_length_le (Nat.le_of_eq HL.out), fnd] at hf
      have HFF := hide hf
      clear hf
      go_wp2_with fail
      go_ret2
      refine ⟨?_, rfl⟩
      rw [← HFF.out]
      rfl
set_option maxHeartbeats 4000000 in
theorem change_any (A : Option Addr) (n c : Nat) (L : List Ch) (x : Sx) (w : World) (hn : n ≤ 1000) (h : Rch w A n L) :
    Calls Try.prog 45 #[.slice A n c, .string ⟨x.toArray⟩] w fun e w' => e = .returned (chgV (chg L x)) ∧ Below w.heap.size w w' := by
  have H := hide h
  have HL := hide h.len
  obtain ⟨F, hF⟩ : ∃ F, chg L x = F := ⟨_, rfl⟩
  rw [hF]
  have HF := hide hF
  have V := hide (Vk.new w 71 [.string ⟨#[]⟩, .string ⟨#[]⟩, .string ⟨#[]⟩, .bool false, .bool false])
  have HB := hide (Below.al (Below.refl w.heap.size w) (.cells #[.string ⟨#[]⟩, .string ⟨#[]⟩, .string ⟨#[]⟩, .bool false, .bool false] 71))
  clear hF h
  obtain ⟨c0, c1, c2, c3, c4, f0, f1, f2, f3, f4⟩ := V.out.five
  obtain ⟨w1, hw1⟩ : ∃ w1, w.alloc (.cells #[.string ⟨#[]⟩, .string ⟨#[]⟩, .string ⟨#[]⟩, .bool false, .bool false] 71) = w1 := ⟨_, rfl⟩
  rw [show w.alloc (.cells [.string ⟨#[]⟩, .string ⟨#[]⟩, .string ⟨#[]⟩, .bool false, .bool false].toArray 71) = w1 from hw1] at c0 c1 c2 c3 c4 f0 f1 f2 f3 f4 V
  rw [hw1] at HB
  go_enter Try.func45, Try.ntmps45
  go_wp2_with fail
  try rw [hw1]
  clear hw1
  go_loop [6] (fun i => ∃ k : Nat, k ≤ n ∧ i = .int .i64 k ∧ chg (L.drop k) x = F) (fun i => n - (intOf i).toNat)
  case atStart => exact ⟨0, Nat.zero_le _, rfl, HF.out⟩
  case round =>
    obtain ⟨k, hk, rfl, hf⟩ := hrel
    by_cases hlt : k < n
    · obtain ⟨b, o, rfl, hb, g0, g1, g2, g3, g4⟩ := (H.out.below HB.out).at_ hlt
      rw [drop_c L k (by rw [HL.out]; exact hlt), chg] at hf
      obtain ⟨T, hT⟩ : ∃ T, nthC L k = T := ⟨_, rfl⟩
      rw [hT] at g0 g1 g2 g3 g4 hf
      obtain ⟨q, hq⟩ : ∃ q, (T.k == x) = q := ⟨_, rfl⟩
      rw [hq] at hf
      have HFF := hide hf
      have HQ := hide hq
      have kn : (k : Int) < (n : Int) := by omega
      have k0 : (0 : Int) ≤ (k : Int) := by omega
      clear hf hT hb
      cases q
      · go_wp2_with fail
        go_round
        case rel => exact ⟨k + 1, by omega, by go_num, by have := HFF.out; simpa using this⟩
        case measure => simp [intOf]; omega
      · go_wp2_with fail
        have V3 := ((((V.out.set_ 0 (.string ⟨T.k.toArray⟩)).set_ 1 (.string ⟨T.was.toArray⟩)).set_ 2 (.string ⟨T.now.toArray⟩)).set_ 3 (.bool T.had)).set_ 4 (.bool T.has)
        simp only [List.set_cons_zero, List.set_cons_succ] at V3
        obtain ⟨d0, d1, d2, d3, d4, _⟩ := V3.five
        have hh : some T = F := by simpa using HFF.out
        refine bodyPost_ret (v := chgV (some T)) (by simp [results, Try.results45, go_sem, d0, d1, d2, d3, d4, chgV, chV]) rfl ⟨by rw [← hh], ?_⟩
        exact ((((HB.out.setCell (by simp) _).setCell (by simp) _).setCell (by simp) _).setCell (by simp) _).setCell (by simp) _
    · obtain rfl : k = n := by omega
      rw [List.drop_of_length_le (Nat.le_of_eq HL.out), chg] at hf
      have HFF := hide hf
      clear hf
      go_wp2_with fail
      have V3 := ((((V.out.set_ 0 (.string ⟨#[]⟩)).set_ 1 (.string ⟨#[]⟩)).set_ 2 (.string ⟨#[]⟩)).set_ 3 (.bool false)).set_ 4 (.bool false)
      simp only [List.set_cons_zero, List.set_cons_succ] at V3
      obtain ⟨d0, d1, d2, d3, d4, _⟩ := V3.five
      refine bodyPost_ret (v := chgV none) (by simp [results, Try.results45, go_sem, d0, d1, d2, d3, d4, chgV, chV, ch0]) rfl ⟨by rw [← HFF.out], ?_⟩
      exact ((((HB.out.setCell (by simp) _).setCell (by simp) _).setCell (by simp) _).setCell (by simp) _).setCell (by simp) _
end Go.Proofs.Ytcmlegpfapomnaa
