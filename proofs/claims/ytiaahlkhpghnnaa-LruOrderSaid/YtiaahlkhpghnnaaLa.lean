/- Items of a cache: how they lie; the walks of the small functions. -/
import Derived.Test.YtiaahlkhpghnnaaRows
import Derived.Test.YtiaahlkhpghnnaaStep
import Derived.Deep.RegionHeld
import Derived.Deep.RegionWith
import Derived.Deep.QuietTactic
import Derived.BigQuiet
namespace Go.Proofs.Ytiaahlkhpghnnaa
open Go.RowKit

/-- An item: its number, its pins, whether it is dirty. -/
structure It where
  id : Int
  pins : Int
  dirty : Bool
deriving DecidableEq
def itC (t : It) : List Value := [.int .i64 t.id, .int .i64 t.pins, .bool t.dirty]
def itV (t : It) : Value := .agg #[.int .i64 t.id, .int .i64 t.pins, .bool t.dirty]
def its (L : List It) : List Value := L.flatMap itC
def it0 : It := ⟨0, 0, false⟩
def nthI (L : List It) (k : Nat) : It := L.getD k it0
theorem its_length (L : List It) : (its L).length = L.length * 3 := by
  induction L with
  | nil => rfl
  | cons a l ih => simp only [its, List.flatMap_cons, List.length_append, List.length_cons] at *; simp only [itC, List.length_cons, List.length_nil]; omega
theorem its_app (L M : List It) : its (L ++ M) = its L ++ its M := by simp [its]
theorem its_get : ∀ (L : List It) (k : Nat), k < L.length → (its L)[k * 3]? = some (.int .i64 (nthI L k).id) ∧ (its L)[k * 3 + 1]? = some (.int .i64 (nthI L k).pins) ∧ (its L)[k * 3 + 2]? = some (.bool (nthI L k).dirty)
  | [], k, h => absurd h (by simp)
  | a :: l, 0, _ => ⟨rfl, rfl, rfl⟩
  | a :: l, k + 1, h => by
    have ih := its_get l k (by simpa using h)
    have e : ∀ j, (its (a :: l))[(k + 1) * 3 + j]? = (its l)[k * 3 + j]? := fun j => by
      show (itC a ++ its l)[(k + 1) * 3 + j]? = _
      rw [List.getElem?_append_right (by simp [itC]; omega)]
      congr 1
      simp [itC]; omega
    have n1 : nthI (a :: l) (k + 1) = nthI l k := by simp [nthI]
    rw [n1]
    exact ⟨(e 0).trans ih.1, (e 1).trans ih.2.1, (e 2).trans ih.2.2⟩
theorem its_take (L : List It) : ∀ k, (its L).take (k * 3) = its (L.take k) := by
  induction L with
  | nil => intro k; simp [its]
  | cons a l ih =>
    intro k
    cases k with
    | zero => rfl
    | succ k =>
      show (itC a ++ its l).take ((k + 1) * 3) = itC a ++ its (l.take k)
      rw [List.take_append, List.take_of_length_le (by simp [itC]; omega), ← ih k]
      congr 2
      simp [itC]; omega
theorem its_drop (L : List It) : ∀ k, (its L).drop (k * 3) = its (L.drop k) := by
  induction L with
  | nil => intro k; simp [its]
  | cons a l ih =>
    intro k
    cases k with
    | zero => rfl
    | succ k =>
      show (itC a ++ its l).drop ((k + 1) * 3) = its (l.drop k)
      rw [List.drop_append, List.drop_of_length_le (by simp [itC]; omega), List.nil_append, ← ih k]
      congr 1
      simp [itC]; omega
theorem its_one (L : List It) : ∀ u ∈ its L, u.oneCell' = true := by
  intro u hu
  simp only [its, List.mem_flatMap, itC, List.mem_cons, List.not_mem_nil, or_false] at hu
  obtain ⟨t, _, h | h | h⟩ := hu <;> subst h <;> rfl

/-- A slice of items. -/
def Rit (w : World) (A : Option Addr) (n : Nat) (L : List It) : Prop := Rd w A n 3 (its L)
section
variable {w w' : World} {A : Option Addr} {n : Nat} {L : List It}
theorem Rit.len (h : Rit w A n L) : L.length = n := by have := h.1; rw [its_length] at this; omega
theorem Rit.below (h : Rit w A n L) (hb : Below w.heap.size w w') : Rit w' A n L := Rd.below h hb
theorem Rit.at_ (h : Rit w A n L) {k : Nat} (hk : k < n) : ∃ b o, A = some ⟨b, o, none⟩ ∧ b < w.heap.size ∧ w.cell? ⟨b, o + k * 3, none⟩ = some (.int .i64 (nthI L k).id) ∧ w.cell? ⟨b, o + k * 3 + 1, none⟩ = some (.int .i64 (nthI L k).pins) ∧ w.cell? ⟨b, o + k * 3 + 2, none⟩ = some (.bool (nthI L k).dirty) := by
  have hl := h.len
  obtain ⟨b, o, rfl, hb, hc⟩ := Rd.at_ h (by rw [its_length]; omega)
  obtain ⟨h0, h1, h2⟩ := its_get L k (by omega)
  exact ⟨b, o, rfl, hb, hc _ _ h0, by rw [Nat.add_assoc]; exact hc _ _ h1, by rw [Nat.add_assoc]; exact hc _ _ h2⟩
theorem Rit.none_ (w : World) (A : Option Addr) : Rit w A 0 [] := Rd.none_ w A 3
theorem Rit.of_own {base : Nat} {e : TypeId} {c : Nat} (h : w.ownsRow base e 3 (.slice A n c) n (its L)) : Rit w A n L := Rd.of_own h
end

theorem al_cell {w : World} {g : Addr} {v : Value} (h : w.cell? g = some v) (o : Obj) : (w.alloc o).cell? g = some v := (World.cell?_alloc_lt w o g (World.block_lt_of_cell? w g h)).trans h
theorem is_any (t : It) (g : Addr) (id : Int) (w : World) (h : w.cell? g = some (.int .i64 id)) : Calls Try.prog 39 #[itV t, .pointer (some g)] w fun e w' => e = .returned (.bool (t.id == id)) ∧ Below w.heap.size w w' := by
  unfold itV
  have h1 := fun o => al_cell h o
  clear h
  go_enter Try.func39, Try.ntmps39
  go_wp2_with fail
  go_ret
  exact ⟨rfl, Below.al (Below.refl _ _) _⟩
theorem free_any (t : It) (w : World) : Calls Try.prog 29 #[itV t] w fun e w' => e = .returned (.bool (t.pins == 0)) ∧ Below w.heap.size w w' := by
  unfold itV
  go_enter Try.func29, Try.ntmps29
  go_wp2_with fail
  go_ret
  exact ⟨rfl, Below.al (Below.refl _ _) _⟩
/-- The first place at which p holds; -1: nowhere. -/
def idxV (p : It → Bool) (L : List It) : Int := match L.findIdx? p with | some k => (k : Int) | none => -1
theorem idxV_at {p : It → Bool} {L : List It} {k : Nat} (hk : k < L.length) (hp : p (nthI L k) = true) (hno : ∀ j, j < k → p (nthI L j) = false) : idxV p L = k := by
  have e : L.findIdx? p = some k := by
    rw [List.findIdx?_eq_some_iff_getElem]
    refine ⟨hk, by rw [← hp]; simp [nthI, List.getD, hk], fun j hj => ?_⟩
    have := hno j hj
    have h2 : L[j]'(by omega) = nthI L j := by simp [nthI, List.getD, show j < L.length by omega]
    rw [h2, this]
    exact Bool.false_ne_true
  simp [idxV, e]
theorem idxV_none {p : It → Bool} {L : List It} (hno : ∀ j, j < L.length → p (nthI L j) = false) : idxV p L = -1 := by
  have e : L.findIdx? p = none := by
    rw [List.findIdx?_eq_none_iff]
    intro x hx
    obtain ⟨j, hj, rfl⟩ := List.getElem_of_mem hx
    have := hno j hj
    have h2 : L[j] = nthI L j := by simp [nthI, List.getD, hj]
    rw [h2]; exact this
  simp [idxV, e]
set_option maxHeartbeats 1000000 in
theorem idx_place (A : Option Addr) (n c : Nat) (L : List It) (g : Addr) (id : Int) (w : World) (hn : (n : Int) ≤ 9223372036854775807) (h : Rit w A n L) (hg : w.cell? g = some (.int .i64 id)) :
    Calls Try.prog 28 #[.slice A n c, .func (.func 39) #[] #[.pointer (some g)]] w fun e w' => e = .returned (.int .i64 (idxV (fun t => t.id == id) L)) ∧ Below w.heap.size w w' := by
  have H := hide h
  have HL := hide h.len
  have HG := hide hg
  clear hg
  clear h
  go_enter Try.func28, Try.ntmps28
  go_wp2_with fail
  go_loopw [5, 8] (fun _ i wr => ∃ k : Nat, k ≤ n ∧ i = .int .i64 k ∧ (∀ j, j < k → (fun t => t.id == id) (nthI L j) = false) ∧ Below w.heap.size w wr) (fun _ i _ => n - (intOf i).toNat)
  case atStart => exact ⟨0, Nat.zero_le _, rfl, fun j hj => absurd hj (by omega), Below.refl _ _⟩
  case round =>
    obtain ⟨k, hk, rfl, hno, hbr⟩ := hrel
    have HB := hide hbr
    have HN := hide hno
    clear hno
    by_cases hlt : k < n
    · obtain ⟨b, o, rfl, hb, h0, h1, h2⟩ := (H.out.below hbr).at_ hlt
      have IS := hide (is_any (nthI L k) g id wr ((hbr.cell (World.block_lt_of_cell? w g HG.out)).trans HG.out))
      unfold itV at IS
      obtain ⟨q, hq⟩ : ∃ q, (fun t => t.id == id) (nthI L k) = q := ⟨_, rfl⟩
      have HQ := hide hq
      dsimp only at hq
      rw [hq] at IS
      clear hbr hb hq
      cases q
      · go_wp2_with (go_at_call 39; refine IS.out.mono ?_; rintro r w1 ⟨rfl, hb1⟩)
        go_roundw
        case rel =>
          refine ⟨k + 1, by omega, by go_num, fun j hj => ?_, Below.then_ HB.out hb1⟩
          rcases Nat.lt_or_ge j k with h1 | h1
          · exact HN.out j h1
          · obtain rfl : j = k := by omega
            exact HQ.out
        case measure => simp [intOf]; omega
      · go_wp2_with (go_at_call 39; refine IS.out.mono ?_; rintro r w1 ⟨rfl, hb1⟩)
        go_ret
        exact ⟨by rw [idxV_at (by rw [HL.out]; exact hlt) HQ.out HN.out]; rfl, Below.then_ HB.out hb1⟩
    · obtain rfl : k = n := by omega
      go_wp2_with fail
      go_ret
      exact ⟨by rw [idxV_none (fun j hj => HN.out j (by rw [← HL.out]; exact hj))]; rfl, HB.out⟩
set_option maxHeartbeats 1000000 in
theorem idx_free (A : Option Addr) (n c : Nat) (L : List It) (w : World) (hn : (n : Int) ≤ 9223372036854775807) (h : Rit w A n L) :
    Calls Try.prog 28 #[.slice A n c, .func (.func 29) #[] #[]] w fun e w' => e = .returned (.int .i64 (idxV (fun t => t.pins == 0) L)) ∧ Below w.heap.size w w' := by
  have H := hide h
  have HL := hide h.len
  clear h
  go_enter Try.func28, Try.ntmps28
  go_wp2_with fail
  go_loopw [5, 8] (fun _ i wr => ∃ k : Nat, k ≤ n ∧ i = .int .i64 k ∧ (∀ j, j < k → (fun t => t.pins == 0) (nthI L j) = false) ∧ Below w.heap.size w wr) (fun _ i _ => n - (intOf i).toNat)
  case atStart => exact ⟨0, Nat.zero_le _, rfl, fun j hj => absurd hj (by omega), Below.refl _ _⟩
  case round =>
    obtain ⟨k, hk, rfl, hno, hbr⟩ := hrel
    have HB := hide hbr
    have HN := hide hno
    clear hno
    by_cases hlt : k < n
    · obtain ⟨b, o, rfl, hb, h0, h1, h2⟩ := (H.out.below hbr).at_ hlt
      have IS := hide (free_any (nthI L k) wr)
      unfold itV at IS
      obtain ⟨q, hq⟩ : ∃ q, (fun t => t.pins == 0) (nthI L k) = q := ⟨_, rfl⟩
      have HQ := hide hq
      dsimp only at hq
      rw [hq] at IS
      clear hbr hb hq
      cases q
      · go_wp2_with (go_at_call 29; refine IS.out.mono ?_; rintro r w1 ⟨rfl, hb1⟩)
        go_roundw
        case rel =>
          refine ⟨k + 1, by omega, by go_num, fun j hj => ?_, Below.then_ HB.out hb1⟩
          rcases Nat.lt_or_ge j k with h1 | h1
          · exact HN.out j h1
          · obtain rfl : j = k := by omega
            exact HQ.out
        case measure => simp [intOf]; omega
      · go_wp2_with (go_at_call 29; refine IS.out.mono ?_; rintro r w1 ⟨rfl, hb1⟩)
        go_ret
        exact ⟨by rw [idxV_at (by rw [HL.out]; exact hlt) HQ.out HN.out]; rfl, Below.then_ HB.out hb1⟩
    · obtain rfl : k = n := by omega
      go_wp2_with fail
      go_ret
      exact ⟨by rw [idxV_none (fun j hj => HN.out j (by rw [← HL.out]; exact hj))]; rfl, HB.out⟩
def place (L : List It) (id : Int) : Int := idxV (fun t => t.id == id) L
/-- A cache: its room, its items. -/
def Rc (w : World) (v : Value) (room : Int) (L : List It) : Prop := ∃ A n c, v = .agg #[.int .i64 room, .slice A n c] ∧ n ≤ c ∧ c ≤ maxLen ∧ Rit w A n L
theorem maxLen_int {n : Nat} (h : n ≤ maxLen) : (n : Int) ≤ 9223372036854775807 := by unfold maxLen at h; omega
set_option maxHeartbeats 1000000 in
theorem place_any (room : Int) (A : Option Addr) (n c : Nat) (L : List It) (id : Int) (w : World) (hn : (n : Int) ≤ 9223372036854775807) (h : Rit w A n L) :
    Calls Try.prog 31 #[.agg #[.int .i64 room, .slice A n c], .int .i64 id] w fun e w' => e = .returned (.int .i64 (place L id)) ∧ Below w.heap.size w w' := by
  have H := hide h
  have HN := hide hn
  clear h hn
  go_enter Try.func31, Try.ntmps31
  go_wp2_with (go_at_call 28; refine (idx_place _ _ _ L _ id _ HN.out (H.out.below (Below.al (Below.al (Below.refl _ _) _) _)) (by simp)).mono ?_; rintro r w1 ⟨rfl, hb1⟩)
  go_ret
  exact ⟨rfl, Below.then_ (Below.al (Below.al (Below.refl _ _) _) _) hb1⟩
theorem in_any (x : Int) (w : World) : Calls Try.prog 25 #[.int .i64 x] w fun e w' => e = .returned (.bool (decide (0 ≤ x ∧ x ≤ 1099511627776))) ∧ w = w' := by
  by_cases h0 : 0 ≤ x
  · by_cases h1 : x ≤ 1099511627776
    · rw [decide_eq_true ⟨h0, h1⟩]
      go_enter Try.func25, Try.ntmps25
      go_wp2_with fail
      go_ret
      exact ⟨rfl, rfl⟩
    · rw [decide_eq_false (fun h => h1 h.2)]
      go_enter Try.func25, Try.ntmps25
      go_wp2_with fail
      go_ret
      exact ⟨rfl, rfl⟩
  · rw [decide_eq_false (fun h => h0 h.1)]
    go_enter Try.func25, Try.ntmps25
    go_wp2_with fail
    go_ret
    exact ⟨rfl, rfl⟩
end Go.Proofs.Ytiaahlkhpghnnaa
