/- Words for slices of strings; the loops that turn a row into a row: Turn, the document's Turn, the law's own, of, ofAll. -/
import Derived.Test.YtcmlegpfapomnaaDj
namespace Go.Proofs.Ytcmlegpfapomnaa
open Go.RowKit Go.Instr
open Go.Op (bytesLess)

def sts (L : List Sx) : List Value := L.map fun l => .string ⟨l.toArray⟩
theorem sts_length (L : List Sx) : (sts L).length = L.length := by simp [sts]
theorem sts_app (a b : List Sx) : sts (a ++ b) = sts a ++ sts b := by simp [sts]
theorem sts_one (L : List Sx) : ∀ u ∈ sts L, u.oneCell' = true := by
  intro u hu
  obtain ⟨_, _, rfl⟩ := List.mem_map.1 hu
  rfl
def nthS (L : List Sx) (k : Nat) : Sx := L.getD k []
theorem sts_get (L : List Sx) (k : Nat) (h : k < L.length) : (sts L)[k]? = some (.string ⟨(nthS L k).toArray⟩) := by
  simp [sts, nthS, List.getD, h]
/-- A slice of strings. -/
def Rs (w : World) (A : Option Addr) (n : Nat) (L : List Sx) : Prop := Rd w A n 1 (sts L)
section
variable {w w' : World} {A : Option Addr} {n : Nat} {L : List Sx}
theorem Rs.len (h : Rs w A n L) : L.length = n := by have := h.1; rw [sts_length, Nat.mul_one] at this; exact this
theorem Rs.below (h : Rs w A n L) (hb : Below w.heap.size w w') : Rs w' A n L := Rd.below h hb
theorem Rs.at_ (h : Rs w A n L) {k : Nat} (hk : k < n) : ∃ b o, A = some ⟨b, o, none⟩ ∧ b < w.heap.size ∧ w.cell? ⟨b, o + k, none⟩ = some (.string ⟨(nthS L k).toArray⟩) := by
  have hl := h.len
  obtain ⟨b, o, e, hb, hc⟩ := Rd.at_ h (by rw [sts_length]; omega)
  exact ⟨b, o, e, hb, hc k _ (sts_get L k (by omega))⟩
theorem Rs.none_ (w : World) (A : Option Addr) : Rs w A 0 [] := Rd.none_ w A 1
theorem Rs.of_own {base : Nat} {e : TypeId} {c : Nat} (h : w.ownsRow base e 1 (.slice A n c) n (sts L)) : Rs w A n L := Rd.of_own h
end
def SS (w : World) (v : Value) (L : List Sx) : Prop := ∃ A n c, v = .slice A n c ∧ n ≤ c ∧ Rs w A n L
theorem SS.below {w w' : World} {v : Value} {L : List Sx} (h : SS w v L) (hb : Below w.heap.size w w') : SS w' v L := by
  obtain ⟨A, n, c, h1, h2, h3⟩ := h
  exact ⟨A, n, c, h1, h2, h3.below hb⟩
theorem info9 : (Try.prog.info? 9).map (fun i => (i.zero, i.size, i.bytes)) = some (some (.string ⟨#[]⟩), 1, 16) := by kernel_rfl
theorem info71 : (Try.prog.info? 71).map (fun i => (i.zero, i.size, i.bytes)) = some (some (chV ch0), 5, 56) := by kernel_rfl
theorem Vk.two_ (w : World) (t u : TypeId) (xs ys : List Value) : Vk ((w.alloc (.cells xs.toArray t)).alloc (.cells ys.toArray u)) (w.heap.size + 1) u ys := by
  have := Vk.new (w.alloc (.cells xs.toArray t)) u ys
  simpa using this
def turn1 (c : Ch) : Ch := ⟨c.k, c.now, c.was, c.has, c.had⟩
theorem take_succ_c (L : List Ch) (k : Nat) (h : k < L.length) : L.take (k + 1) = L.take k ++ [nthC L k] := by
  rw [List.take_add_one, List.getElem?_eq_getElem h]
  simp [nthC, List.getD, h]
theorem take_succ_p (L : List Pr) (k : Nat) (h : k < L.length) : L.take (k + 1) = L.take k ++ [nthP L k] := by
  rw [List.take_add_one, List.getElem?_eq_getElem h]
  simp [nthP, List.getD, h]
theorem take_succ_s (L : List Sx) (k : Nat) (h : k < L.length) : L.take (k + 1) = L.take k ++ [nthS L k] := by
  rw [List.take_add_one, List.getElem?_eq_getElem h]
  simp [nthS, List.getD, h]
set_option maxHeartbeats 4000000 in
theorem turn_any (A : Option Addr) (n c : Nat) (L : List Ch) (w : World) (hn : n ≤ 1000) (h : Rch w A n L) : Calls Try.prog 24 #[.slice A n c] w fun e w' => ∃ v, e = .returned v ∧ SC w' v ((L).map turn1) ∧ Below w.heap.size w w' := by
  have H := hide h
  have HL := hide h.len
  clear h
  go_enter Try.func24, Try.ntmps24
  go_wp2_with fail
  go_loopw [3, 5, 8] (fun s _ i wr => (∃ (k : Nat) (B : Option Addr) (d : Nat), k ≤ n ∧ i = .int .i64 k ∧ s = .slice B k d ∧ wr.ownsRow w.heap.size 55 5 (.slice B k d) k (chs ((L.take k).map turn1)) ∧ Below w.heap.size w wr)) (fun s _ i _ => n - (intOf i).toNat)
  case atStart => exact ⟨0, none, 0, Nat.zero_le _, rfl, rfl, World.ownsRow_nil _ _ _ _, Below.refl _ _⟩
  case round =>
    obtain ⟨k, B, d, hk, rfl, rfl, hown, hbr⟩ := hrel
    have OW := hide hown
    have HB := hide hbr
    have hsz := hbr.size
    clear hown
    by_cases hlt : k < n
    · obtain ⟨b, o, rfl, hb, g0, g1, g2, g3, g4⟩ := (H.out.below hbr).at_ hlt
      obtain ⟨T, hT⟩ : ∃ T, nthC L k = T := ⟨_, rfl⟩
      rw [hT] at g0 g1 g2 g3 g4
      have HTE := hide (show (L.take k).map turn1 ++ [turn1 T] = (L.take (k + 1)).map turn1 by rw [take_succ_c L k (by rw [HL.out]; exact hlt), hT]; rw [List.map_append]; rfl)
      have hkn : (k : Int) < (n : Int) := by omega
      have hk0 : (0 : Int) ≤ (k : Int) := by omega

      have NW := hide (Vk.two_ wr 55 55 [.string ⟨T.k.toArray⟩, .string ⟨T.was.toArray⟩, .string ⟨T.now.toArray⟩, .bool T.had, .bool T.has] [.string ⟨T.k.toArray⟩, .string ⟨T.now.toArray⟩, .string ⟨T.was.toArray⟩, .bool T.has, .bool T.had])
      have HTT := hide hT
      clear hbr hb hT
      go_wp2_with (
         (with_reducible show wpList _ _ _ (⟨some 25, _, _, _, _, _⟩ :: _) _ _)
         go_loud (
         refine wpList_app rfl (.tmp 12) (.tmp 24) 25 rfl w.heap.size 55 (chV ch0) 5 56 Try.underlying25 info55 rfl (by omega) B d k (chs ((L.take k).map turn1)) rfl (((OW.out.alloc _).alloc _)) _ 1 _ (chs [turn1 T]) rfl (NW.out.rd 5 1 rfl) (chs_one _) (by unfold maxLen; omega) (by omega) (by simp; omega) ?_
         intro B' d' w' hown hgr hz
         have HY := hide ((Below.al (Below.al HB.out (.cells #[.string ⟨T.k.toArray⟩, .string ⟨T.was.toArray⟩, .string ⟨T.now.toArray⟩, .bool T.had, .bool T.has] 55)) _).grown hgr (Below.al (Below.al HB.out (.cells #[.string ⟨T.k.toArray⟩, .string ⟨T.was.toArray⟩, .string ⟨T.now.toArray⟩, .bool T.had, .bool T.has] 55)) _).size (fun j hj => by have := (own_lt OW.out j hj).1; omega))
         rw [← chs_app, HTE.out] at hown
         have OY := hide hown
         clear hown hgr hz))
      go_roundw
      case rel => exact ⟨k + 1, B', d', by omega, by go_num, rfl, OY.out, HY.out⟩
      case measure => simp [intOf]; omega
    · obtain rfl : k = n := by omega
      have hl : L.take k = L := List.take_of_length_le (Nat.le_of_eq HL.out)
      rw [hl] at OW
      clear hl
      go_wp2_with fail
      go_ret
      exact ⟨_, rfl, ⟨B, k, d, rfl, (own_capN OW.out).1, Rch.of_own OW.out⟩, HB.out⟩
set_option maxHeartbeats 4000000 in
theorem own_any (A : Option Addr) (n c : Nat) (L : List Ch) (w : World) (hn : n ≤ 1000) (h : Rch w A n L) : Calls Try.prog 17 #[.slice A n c] w fun e w' => ∃ v, e = .returned v ∧ SC w' v (L) ∧ Below w.heap.size w w' := by
  have H := hide h
  have HL := hide h.len
  clear h
  go_enter Try.func17, Try.ntmps17
  go_wp2_with fail
  go_loopw [3, 4] (fun s i wr => (∃ (k : Nat) (B : Option Addr) (d : Nat), k ≤ n ∧ i = .int .i64 k ∧ s = .slice B k d ∧ wr.ownsRow w.heap.size 55 5 (.slice B k d) k (chs (L.take k)) ∧ Below w.heap.size w wr)) (fun s i _ => n - (intOf i).toNat)
  case atStart => exact ⟨0, none, 0, Nat.zero_le _, rfl, rfl, World.ownsRow_nil _ _ _ _, Below.refl _ _⟩
  case round =>
    obtain ⟨k, B, d, hk, rfl, rfl, hown, hbr⟩ := hrel
    have OW := hide hown
    have HB := hide hbr
    have hsz := hbr.size
    clear hown
    by_cases hlt : k < n
    · obtain ⟨b, o, rfl, hb, g0, g1, g2, g3, g4⟩ := (H.out.below hbr).at_ hlt
      obtain ⟨T, hT⟩ : ∃ T, nthC L k = T := ⟨_, rfl⟩
      rw [hT] at g0 g1 g2 g3 g4
      have HTE := hide (show L.take k ++ [T] = L.take (k + 1) by rw [take_succ_c L k (by rw [HL.out]; exact hlt), hT])
      have hkn : (k : Int) < (n : Int) := by omega
      have hk0 : (0 : Int) ≤ (k : Int) := by omega

      have NW := hide (Vk.new wr 55 [.string ⟨T.k.toArray⟩, .string ⟨T.was.toArray⟩, .string ⟨T.now.toArray⟩, .bool T.had, .bool T.has])
      have HTT := hide hT
      clear hbr hb hT
      go_wp2_with (
         (with_reducible show wpList _ _ _ (⟨some 17, _, _, _, _, _⟩ :: _) _ _)
         go_loud (
         refine wpList_app rfl (.tmp 11) (.tmp 16) 25 rfl w.heap.size 55 (chV ch0) 5 56 Try.underlying25 info55 rfl (by omega) B d k (chs (L.take k)) rfl (OW.out.alloc _) _ 1 _ (chs [T]) rfl (NW.out.rd 5 1 rfl) (chs_one _) (by unfold maxLen; omega) (by omega) (by simp; omega) ?_
         intro B' d' w' hown hgr hz
         have HY := hide ((Below.al HB.out _).grown hgr (Below.al HB.out _).size (fun j hj => by have := (own_lt OW.out j hj).1; omega))
         rw [← chs_app, HTE.out] at hown
         have OY := hide hown
         clear hown hgr hz))
      go_roundw
      case rel => exact ⟨k + 1, B', d', by omega, by go_num, rfl, OY.out, HY.out⟩
      case measure => simp [intOf]; omega
    · obtain rfl : k = n := by omega
      have hl : L.take k = L := List.take_of_length_le (Nat.le_of_eq HL.out)
      rw [hl] at OW
      clear hl
      go_wp2_with fail
      go_ret
      exact ⟨_, rfl, ⟨B, k, d, rfl, (own_capN OW.out).1, Rch.of_own OW.out⟩, HB.out⟩
set_option maxHeartbeats 4000000 in
theorem of_any (A : Option Addr) (n c : Nat) (L : List Pr) (w : World) (hn : n ≤ 1000) (h : Rp w A n L) : Calls Try.prog 43 #[.slice A n c] w fun e w' => ∃ v, e = .returned v ∧ SS w' v ((L).map Pr.k) ∧ Below w.heap.size w w' := by
  have H := hide h
  have HL := hide h.len
  clear h
  go_enter Try.func43, Try.ntmps43
  go_wp2_with fail
  go_loopw [3, 4] (fun s i wr => (∃ (k : Nat) (B : Option Addr) (d : Nat), k ≤ n ∧ i = .int .i64 k ∧ s = .slice B k d ∧ wr.ownsRow w.heap.size 9 1 (.slice B k d) k (sts ((L.take k).map Pr.k)) ∧ Below w.heap.size w wr)) (fun s i _ => n - (intOf i).toNat)
  case atStart => exact ⟨0, none, 0, Nat.zero_le _, rfl, rfl, World.ownsRow_nil _ _ _ _, Below.refl _ _⟩
  case round =>
    obtain ⟨k, B, d, hk, rfl, rfl, hown, hbr⟩ := hrel
    have OW := hide hown
    have HB := hide hbr
    have hsz := hbr.size
    clear hown
    by_cases hlt : k < n
    · obtain ⟨b, o, rfl, hb, g0, g1⟩ := (H.out.below hbr).at_ hlt
      obtain ⟨T, hT⟩ : ∃ T, nthP L k = T := ⟨_, rfl⟩
      rw [hT] at g0 g1
      have HTE := hide (show (L.take k).map Pr.k ++ [T.k] = (L.take (k + 1)).map Pr.k by rw [take_succ_p L k (by rw [HL.out]; exact hlt), hT]; rw [List.map_append]; rfl)
      have hkn : (k : Int) < (n : Int) := by omega
      have hk0 : (0 : Int) ≤ (k : Int) := by omega

      have NW := hide (Vk.new wr 9 [.string ⟨T.k.toArray⟩])
      have HTT := hide hT
      clear hbr hb hT
      go_wp2_with (
         (with_reducible show wpList _ _ _ (⟨some 18, _, _, _, _, _⟩ :: _) _ _)
         go_loud (
         refine wpList_app rfl (.tmp 11) (.tmp 17) 36 rfl w.heap.size 9 (.string ⟨#[]⟩) 1 16 Try.underlying36 info9 rfl (by omega) B d k (sts ((L.take k).map Pr.k)) rfl (OW.out.alloc _) _ 1 _ (sts [T.k]) rfl (NW.out.rd 1 1 rfl) (sts_one _) (by unfold maxLen; omega) (by omega) (by simp; omega) ?_
         intro B' d' w' hown hgr hz
         have HY := hide ((Below.al HB.out _).grown hgr (Below.al HB.out _).size (fun j hj => by have := (own_lt OW.out j hj).1; omega))
         rw [← sts_app, HTE.out] at hown
         have OY := hide hown
         clear hown hgr hz))
      go_roundw
      case rel => exact ⟨k + 1, B', d', by omega, by go_num, rfl, OY.out, HY.out⟩
      case measure => simp [intOf]; omega
    · obtain rfl : k = n := by omega
      have hl : L.take k = L := List.take_of_length_le (Nat.le_of_eq HL.out)
      rw [hl] at OW
      clear hl
      go_wp2_with fail
      go_ret
      exact ⟨_, rfl, ⟨B, k, d, rfl, (own_capN OW.out).1, Rs.of_own OW.out⟩, HB.out⟩
set_option maxHeartbeats 4000000 in
theorem ofAll_any (A : Option Addr) (n c : Nat) (L : List Ch) (w : World) (hn : n ≤ 1000) (h : Rch w A n L) : Calls Try.prog 44 #[.slice A n c] w fun e w' => ∃ v, e = .returned v ∧ SS w' v ((L).map Ch.k) ∧ Below w.heap.size w w' := by
  have H := hide h
  have HL := hide h.len
  clear h
  go_enter Try.func44, Try.ntmps44
  go_wp2_with fail
  go_loopw [3, 4] (fun s i wr => (∃ (k : Nat) (B : Option Addr) (d : Nat), k ≤ n ∧ i = .int .i64 k ∧ s = .slice B k d ∧ wr.ownsRow w.heap.size 9 1 (.slice B k d) k (sts ((L.take k).map Ch.k)) ∧ Below w.heap.size w wr)) (fun s i _ => n - (intOf i).toNat)
  case atStart => exact ⟨0, none, 0, Nat.zero_le _, rfl, rfl, World.ownsRow_nil _ _ _ _, Below.refl _ _⟩
  case round =>
    obtain ⟨k, B, d, hk, rfl, rfl, hown, hbr⟩ := hrel
    have OW := hide hown
    have HB := hide hbr
    have hsz := hbr.size
    clear hown
    by_cases hlt : k < n
    · obtain ⟨b, o, rfl, hb, g0, g1, g2, g3, g4⟩ := (H.out.below hbr).at_ hlt
      obtain ⟨T, hT⟩ : ∃ T, nthC L k = T := ⟨_, rfl⟩
      rw [hT] at g0 g1 g2 g3 g4
      have HTE := hide (show (L.take k).map Ch.k ++ [T.k] = (L.take (k + 1)).map Ch.k by rw [take_succ_c L k (by rw [HL.out]; exact hlt), hT]; rw [List.map_append]; rfl)
      have hkn : (k : Int) < (n : Int) := by omega
      have hk0 : (0 : Int) ≤ (k : Int) := by omega

      have NW := hide (Vk.new wr 9 [.string ⟨T.k.toArray⟩])
      have HTT := hide hT
      clear hbr hb hT
      go_wp2_with (
         (with_reducible show wpList _ _ _ (⟨some 18, _, _, _, _, _⟩ :: _) _ _)
         go_loud (
         refine wpList_app rfl (.tmp 11) (.tmp 17) 36 rfl w.heap.size 9 (.string ⟨#[]⟩) 1 16 Try.underlying36 info9 rfl (by omega) B d k (sts ((L.take k).map Ch.k)) rfl (OW.out.alloc _) _ 1 _ (sts [T.k]) rfl (NW.out.rd 1 1 rfl) (sts_one _) (by unfold maxLen; omega) (by omega) (by simp; omega) ?_
         intro B' d' w' hown hgr hz
         have HY := hide ((Below.al HB.out _).grown hgr (Below.al HB.out _).size (fun j hj => by have := (own_lt OW.out j hj).1; omega))
         rw [← sts_app, HTE.out] at hown
         have OY := hide hown
         clear hown hgr hz))
      go_roundw
      case rel => exact ⟨k + 1, B', d', by omega, by go_num, rfl, OY.out, HY.out⟩
      case measure => simp [intOf]; omega
    · obtain rfl : k = n := by omega
      have hl : L.take k = L := List.take_of_length_le (Nat.le_of_eq HL.out)
      rw [hl] at OW
      clear hl
      go_wp2_with fail
      go_ret
      exact ⟨_, rfl, ⟨B, k, d, rfl, (own_capN OW.out).1, Rs.of_own OW.out⟩, HB.out⟩
end Go.Proofs.Ytcmlegpfapomnaa
