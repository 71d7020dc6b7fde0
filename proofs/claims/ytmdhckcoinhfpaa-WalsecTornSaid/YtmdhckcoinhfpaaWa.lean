/- Words for slices of strings; the walks of may, room, group, Parts and the reference's Light. -/
import Derived.Test.YtmdhckcoinhfpaaRows
import Derived.Test.YtmdhckcoinhfpaaStep
import Derived.Test.YtmdhckcoinhfpaaTexts
import Derived.Outline
namespace Go.Proofs.Ytmdhckcoinhfpaa
open Go.RowKit

/-- Texts as cells. -/
def st8 (L : List Tx) : List Value := L.map fun l => .string ⟨l.toArray⟩
theorem st8_length (L : List Tx) : (st8 L).length = L.length := by simp [st8]
theorem st8_append (a b : List Tx) : st8 (a ++ b) = st8 a ++ st8 b := by simp [st8]
theorem st8_take (a : List Tx) (k : Nat) : (st8 a).take k = st8 (a.take k) := by simp [st8]
theorem st8_drop (a : List Tx) (k : Nat) : (st8 a).drop k = st8 (a.drop k) := by simp [st8]
theorem st8_one (L : List Tx) : ∀ u ∈ st8 L, u.oneCell' = true := by
  intro u hu
  obtain ⟨_, _, rfl⟩ := List.mem_map.1 hu
  rfl
def nthT (L : List Tx) (k : Nat) : Tx := L.getD k []
theorem st8_get (L : List Tx) (k : Nat) (h : k < L.length) : (st8 L)[k]? = some (.string ⟨(nthT L k).toArray⟩) := by
  simp [st8, nthT, List.getD, h]
/-- A slice of strings. -/
def Rs (w : World) (A : Option Addr) (n : Nat) (L : List Tx) : Prop := Rd w A n 1 (st8 L)
section
variable {w w' : World} {A : Option Addr} {n : Nat} {L : List Tx}
theorem Rs.len (h : Rs w A n L) : L.length = n := by have := h.1; rw [st8_length, Nat.mul_one] at this; exact this
theorem Rs.below (h : Rs w A n L) (hb : Below w.heap.size w w') : Rs w' A n L := Rd.below h hb
theorem Rs.at_ (h : Rs w A n L) {k : Nat} (hk : k < n) : ∃ b o, A = some ⟨b, o, none⟩ ∧ b < w.heap.size ∧ w.cell? ⟨b, o + k, none⟩ = some (.string ⟨(nthT L k).toArray⟩) := by
  have hl := h.len
  obtain ⟨b, o, e, hb, hc⟩ := Rd.at_ h (by rw [st8_length]; omega)
  exact ⟨b, o, e, hb, hc k _ (st8_get L k (by omega))⟩
/-- The text under a letter. -/
theorem Rs.cell_ (h : Rs w A n L) {k : Nat} (hk : k < n) : ∃ b o s, A = some ⟨b, o, none⟩ ∧ b < w.heap.size ∧ w.cell? ⟨b, o + k, none⟩ = some (.string s) ∧ s = ⟨(nthT L k).toArray⟩ ∧ s.size = (nthT L k).length := by
  obtain ⟨b, o, e, hb, hc⟩ := h.at_ hk
  exact ⟨b, o, _, e, hb, hc, rfl, rfl⟩
theorem Rs.lo_ (h : Rs w A n L) (k c : Nat) (h1 : k ≤ n) (h3 : n ≤ c) : Rs w (cutA A c k) (n - k) (L.drop k) := by
  have := Rd.lo_ h k c h1 h3
  simp only [Nat.mul_one, st8_drop] at this
  exact this
theorem Rs.hi_ (h : Rs w A n L) (j c : Nat) (h2 : j ≤ n) (h3 : n ≤ c) : Rs w (cutA A c 0) j (L.take j) := by
  have := Rd.upto h j c h2 h3
  simp only [Nat.mul_one, Nat.sub_zero, st8_take] at this
  exact this
theorem Rs.none_ (w : World) (A : Option Addr) : Rs w A 0 [] := Rd.none_ w A 1
theorem Rs.of_own {base : Nat} {e : TypeId} {c : Nat} (h : w.ownsRow base e 1 (.slice A n c) n (st8 L)) : Rs w A n L := Rd.of_own h
end
theorem slice22 : Try.prog.underlying 22 = some (.slice 9) := Try.underlying22
theorem slice34 : Try.prog.underlying 34 = some (.slice 5) := Try.underlying34
theorem info9 : (Try.prog.info? 9).map (fun i => (i.zero, i.size, i.bytes)) = some (some (.string ⟨#[]⟩), 1, 16) := by kernel_rfl
theorem size9 : (Try.prog.info? 9).map (·.size) = some 1 := by kernel_rfl
theorem info5 : (Try.prog.info? 5).map (fun i => (i.zero, i.size, i.bytes)) = some (some (.int .u8 0), 1, 1) := by kernel_rfl
theorem size5 : (Try.prog.info? 5).map (·.size) = some 1 := by kernel_rfl
theorem info34 : (Try.prog.info? 34).map (fun i => (i.zero, i.size, i.bytes)) = some (some (.slice none 0 0), 1, 24) := by kernel_rfl
theorem size34 : (Try.prog.info? 34).map (·.size) = some 1 := by kernel_rfl

theorem may_any (e : Int) (w : World) : Calls Try.prog 20 #[.int .i64 e] w fun r w' => r = .returned (.bool (decide (1 ≤ e) && decide (e ≤ 1099511627776))) ∧ w = w' := by
  obtain ⟨p, hp⟩ : ∃ p, decide (1 ≤ e) = p := ⟨_, rfl⟩
  obtain ⟨q, hq⟩ : ∃ p, decide (e ≤ 1099511627776) = p := ⟨_, rfl⟩
  rw [hp, hq]
  cases p
  all_goals
    go_enter Try.func20, Try.ntmps20
    go_wp2_with fail
    go_ret
    exact ⟨rfl, rfl⟩
theorem ret_bool {a b : Bool} (h : a = b) : Ending.returned (.bool a) = Ending.returned (.bool b) := by rw [h]
theorem min238 {P : Program} (x M : Nat) (hM : min x 238 = M) (w : World) : (Builtin.min_ #[3, 3] 3 #[.int .i64 (x : Int), .int .i64 238]).run P w = .ok (.int .i64 (M : Int)) w := by
  rw [run_min_int2]
  congr 2
  subst hM
  split <;> omega
theorem room_any (u : Nat) (s : ByteArray) (t : Tx) (hs : s.size = t.length) (hu : u ≤ 239) (w : World) :
    Calls Try.prog 26 #[.int .i64 (u : Int), .string s] w fun r w' => r = .returned (.bool (decide (u + cost t ≤ 239))) ∧ w = w' := by
  have hc : cost t = 1 + min s.size 238 := by rw [hs]; rfl
  rw [hc]
  clear hc hs
  go_enter Try.func26, Try.ntmps26
  go_wp2_with fail
  all_goals
    go_ret
    exact ⟨ret_bool (decide_eq_decide.2 (by omega)), rfl⟩
theorem grp_step (L : List Tx) (k u : Nat) (h : k < L.length) : grp u (L.drop k) = if u + cost (nthT L k) ≤ 239 then grp (u + cost (nthT L k)) (L.drop (k + 1)) + 1 else 0 := by
  rw [List.drop_eq_getElem_cons h, grp]
  have : L[k] = nthT L k := by simp [nthT, List.getD, h]
  rw [this]
theorem grp_end (L : List Tx) (u : Nat) : grp u (L.drop L.length) = 0 := by rw [List.drop_length]; rfl
set_option maxHeartbeats 2000000 in
theorem group_any (A : Option Addr) (n c : Nat) (L : List Tx) (w : World) (hn : n ≤ 4611686018427387904) (h : Rs w A n L) :
    Calls Try.prog 21 #[.slice A n c] w fun r w' => r = .returned (.int .i64 (grp 0 L : Nat)) ∧ w = w' := by
  have H := hide h
  have HL := hide h.len
  clear h
  obtain ⟨G, hG⟩ : ∃ G, grp 0 L = G := ⟨_, rfl⟩
  rw [hG]
  have HG := hide hG
  clear hG
  go_enter Try.func21, Try.ntmps21
  go_wp2_with fail
  go_loop [3, 4, 5, 8] (fun us _ _ i => ∃ k u : Nat, k ≤ n ∧ i = .int .i64 k ∧ us = .int .i64 u ∧ u ≤ 239 ∧ G = k + grp u (L.drop k)) (fun _ _ _ i => n - (intOf i).toNat)
  case atStart => exact ⟨0, 0, Nat.zero_le _, rfl, rfl, by omega, by rw [← HG.out, List.drop_zero, Nat.zero_add]⟩
  case round =>
    obtain ⟨k, u, hk, rfl, rfl, hu, hg⟩ := hrel
    by_cases hlt : k < n
    · obtain ⟨b, o, s, rfl, hb, hc, hs, hsz⟩ := H.out.cell_ hlt
      have hstep := grp_step L k u (by rw [HL.out]; exact hlt)
      rw [hstep] at hg
      obtain ⟨t, ht⟩ : ∃ t, nthT L k = t := ⟨_, rfl⟩
      rw [ht] at hg hsz
      have hcost : cost t = 1 + min s.size 238 := by rw [hsz]; rfl
      obtain ⟨M, hM⟩ : ∃ M, min s.size 238 = M := ⟨_, rfl⟩
      have hmin := min238 (P := Try.prog) s.size M hM
      have hM2 : M ≤ 238 := by omega
      rw [hM] at hcost
      have HR := hide (room_any u s t hsz hu)
      clear hstep hs hsz ht hM
      by_cases hr : u + cost t ≤ 239
      · rw [decide_eq_true hr] at HR
        rw [if_pos hr, hcost] at hg
        have HG2 := hide hg
        rw [hcost] at hr
        clear hg hcost
        go_wp2_with (go_at_call 26; refine (HR.out _).mono ?_; rintro e w' ⟨rfl, rfl⟩)
        go_round
        case rel => exact ⟨k + 1, u + (1 + M), by omega, by go_num, by go_num, hr, by rw [HG2.out]; omega⟩
        case measure => simp [intOf]; omega
      · rw [decide_eq_false hr] at HR
        rw [if_neg hr] at hg
        have HG2 := hide hg
        clear hg hcost hr
        go_wp2_with (go_at_call 26; refine (HR.out _).mono ?_; rintro e w' ⟨rfl, rfl⟩)
        go_ret
        exact ⟨by rw [HG2.out]; rfl, rfl⟩
    · obtain rfl : k = n := by omega
      have HG2 := hide hg
      clear hg
      go_wp2_with fail
      go_ret
      refine ⟨?_, rfl⟩
      rw [HG2.out, ← HL.out, grp_end]
      rfl
set_option maxHeartbeats 2000000 in
theorem parts_any (A : Option Addr) (n c : Nat) (L : List Tx) (w : World) (hn : n ≤ 4611686018427387904) (hnc : n ≤ c) (h : Rs w A n L) :
    Calls Try.prog 12 #[.slice A n c] w fun r w' => r = .returned (.int .i64 (parts L : Nat)) ∧ w = w' := by
  have H := hide h
  have HP := hide (parts_le L)
  have HL := hide h.len
  clear h
  obtain ⟨G, hG⟩ : ∃ G, parts L = G := ⟨_, rfl⟩
  rw [hG] at HP ⊢
  have HG := hide hG
  clear hG
  go_enter Try.func12, Try.ntmps12
  go_wp2_with fail
  go_loop [0, 3] (fun l i => ∃ (k m d : Nat) (B : Option Addr) (M : List Tx), i = .int .i64 k ∧ l = .slice B m d ∧ m ≤ d ∧ m ≤ n ∧ Rs w B m M ∧ G = k + parts M) (fun l _ => (match l with | .slice _ m _ => m | _ => 0))
  case atStart => exact ⟨0, n, c, A, L, rfl, rfl, hnc, Nat.le_refl _, H.out, by rw [HG.out, Nat.zero_add]⟩
  case round =>
    obtain ⟨k, m, d, B, M, rfl, rfl, hmd, hmn, hr, hg⟩ := hrel
    have HR := hide hr
    have HM := hide hr.len
    have HG2 := hide hg
    clear hr hg
    by_cases hlt : 0 < m
    · have hne : M ≠ [] := fun e => by have := HM.out; rw [e] at this; simp at this; omega
      have HC := hide (parts_cons hne)
      have gp := grp_pos hne
      have gl := grp_le M 0
      rw [HM.out] at gl
      have GC := hide (fun w h => group_any B m d M w (by omega) h)
      obtain ⟨g, hg⟩ : ∃ g, grp 0 M = g := ⟨_, rfl⟩
      rw [hg] at GC gp gl HC
      have HRd := hide (HR.out.lo_ g d gl hmd)
      have sl := run_lo slice22 size9 B m d g g rfl gl
      obtain ⟨Q, hQ⟩ : ∃ Q, cutA B d g = Q := ⟨_, rfl⟩
      rw [hQ] at HRd sl
      have hk : k + 1 ≤ n := by have := HG2.out; have := HC.out; have := HP.out; have := HL.out; omega
      clear hne hg hQ
      go_wp2_with (go_at_call 21; refine (GC.out _ HR.out).mono ?_; rintro e w' ⟨rfl, rfl⟩)
      go_round
      case rel => exact ⟨k + 1, m - g, d - g, Q, M.drop g, by go_num, rfl, by omega, by omega, HRd.out, by rw [HG2.out, HC.out]; omega⟩
      case measure => simp; omega
    · obtain rfl : m = 0 := by omega
      go_wp2_with fail
      go_ret
      refine ⟨?_, rfl⟩
      have : M = [] := List.eq_nil_of_length_eq_zero HM.out
      rw [HG2.out, this, parts_nil]
      rfl
def lightB (L : List Tx) (m : Nat) : Bool := decide (L.length ≤ m) && L.all fun l => decide (l.length ≤ 300)
theorem lightB_len {L : List Tx} {m : Nat} (h : lightB L m = true) : L.length ≤ m := by
  simp [lightB] at h; exact h.1
theorem lightB_at {L : List Tx} {m : Nat} (h : lightB L m = true) : ∀ l ∈ L, l.length ≤ 300 := by
  simp [lightB] at h; exact h.2
theorem nthT_mem {L : List Tx} {k : Nat} (h : k < L.length) : nthT L k ∈ L := by
  have : nthT L k = L[k] := by simp [nthT, List.getD, h]
  rw [this]
  exact List.getElem_mem h
set_option maxHeartbeats 2000000 in
theorem light_any (A : Option Addr) (n c m : Nat) (L : List Tx) (w : World) (hm : m ≤ 1000) (h : Rs w A n L) :
    Calls Try.prog 7 #[.slice A n c, .int .i64 (m : Int)] w fun e w' => e = .returned (.bool (lightB L m)) ∧ w = w' := by
  have HL := hide h.len
  have H := hide h
  clear h
  by_cases hn : m < n
  · have HQ := hide (show lightB L m = false by unfold lightB; rw [HL.out, decide_eq_false (by omega)]; rfl)
    have hd : decide (m < n) = true := by simp; omega
    go_enter Try.func7, Try.ntmps7
    go_wp2_with fail
    go_ret
    rw [HQ.out]
    exact ⟨rfl, rfl⟩
  · have hd : decide (m < n) = false := by simp; omega
    go_enter Try.func7, Try.ntmps7
    go_wp2_with fail
    go_loop [5] (fun i => ∃ k : Nat, k ≤ n ∧ i = .int .i64 k ∧ ∀ j, j < k → (nthT L j).length ≤ 300) (fun i => n - (intOf i).toNat)
    case atStart => exact ⟨0, Nat.zero_le _, rfl, fun j hj => absurd hj (by omega)⟩
    case round =>
      obtain ⟨k, hk, rfl, hall⟩ := hrel
      have HA := hide hall
      clear hall
      by_cases hlt : k < n
      · obtain ⟨b, o, s, rfl, hb, hc, hs, hsz⟩ := H.out.cell_ hlt
        by_cases h3 : s.size ≤ 300
        · have d3 : decide (300 < (s.size : Int)) = false := by simp; omega
          have HA2 := hide (show ∀ j, j < k + 1 → (nthT L j).length ≤ 300 from fun j hj => by
            rcases Nat.lt_or_ge j k with h1 | h1
            · exact HA.out j h1
            · obtain rfl : j = k := by omega
              omega)
          clear hs hsz h3
          go_wp2_with fail
          go_round
          case rel => exact ⟨k + 1, by omega, by go_num, HA2.out⟩
          case measure => simp [intOf]; omega
        · have d3 : decide (300 < (s.size : Int)) = true := by simp; omega
          have HQ := hide (show lightB L m = false by
            rw [Bool.eq_false_iff]
            intro hq
            have := lightB_at hq _ (nthT_mem (k := k) (by rw [HL.out]; exact hlt))
            omega)
          clear hs hsz h3
          go_wp2_with fail
          go_ret
          rw [HQ.out]
          exact ⟨rfl, rfl⟩
      · obtain rfl : k = n := by omega
        have HQ := hide (show lightB L m = true by
          simp only [lightB, Bool.and_eq_true, decide_eq_true_eq, List.all_eq_true]
          refine ⟨by rw [HL.out]; omega, fun l hl => ?_⟩
          obtain ⟨j, hj, rfl⟩ := List.getElem_of_mem hl
          have := HA.out j (by rw [← HL.out]; exact hj)
          simpa [nthT, List.getD, hj] using this)
        go_wp2_with fail
        go_ret
        rw [HQ.out]
        exact ⟨rfl, rfl⟩
end Go.Proofs.Ytmdhckcoinhfpaa
