/- LruOrder in plain words: what a call leaves of the numbers' order. -/
import Derived.Test.YtiaahlkhpghnnaaLj
namespace Go.Proofs.Ytiaahlkhpghnnaa

theorem check_iff (room : Int) (C : List It) : checkC room C = 0 ↔ (1 ≤ room ∧ room ≤ 4096) ∧ C.length ≤ 8192 ∧ C.all okI = true ∧ (ids C).Nodup := by
  unfold checkC
  by_cases h1 : room < 1 ∨ 4096 < room
  · rw [if_pos h1]; constructor
    · intro h; omega
    · intro h; omega
  · rw [if_neg h1]
    by_cases h2 : 8192 < C.length
    · rw [if_pos h2]; constructor
      · intro h; omega
      · intro h; omega
    · rw [if_neg h2]
      cases h3 : C.all okI
      · rw [if_pos rfl]; constructor
        · intro h; omega
        · intro h; simp at h
      · rw [if_neg (by simp)]
        by_cases h4 : (ids C).Nodup
        · rw [if_pos h4]; exact ⟨fun _ => ⟨by omega, by omega, rfl, h4⟩, fun _ => rfl⟩
        · rw [if_neg h4]; constructor
          · intro h; omega
          · intro h; exact absurd h.2.2.2 h4
theorem filter_erase : ∀ (l : List Int) (i : Nat) (a : Int), l.Nodup → l[i]? = some a → l.filter (fun x => decide (x ≠ a)) = l.eraseIdx i
  | [], i, a, _, h => by simp at h
  | b :: l, 0, a, hn, h => by
    simp at h
    subst h
    rw [List.nodup_cons] at hn
    rw [List.filter_cons_of_neg (by simp), List.eraseIdx_cons_zero, List.filter_eq_self]
    intro x hx
    simp
    intro e
    exact hn.1 (e ▸ hx)
  | b :: l, i + 1, a, hn, h => by
    rw [List.nodup_cons] at hn
    have h' : l[i]? = some a := by simpa using h
    have hne : b ≠ a := fun e => hn.1 (e ▸ List.mem_of_getElem? h')
    rw [List.filter_cons_of_pos (by simp [hne]), List.eraseIdx_cons_succ, filter_erase l i a hn.2 h']
theorem map_erase {α β : Type} (f : α → β) : ∀ (l : List α) (j : Nat), (l.eraseIdx j).map f = (l.map f).eraseIdx j
  | [], j => by simp
  | a :: l, 0 => by simp
  | a :: l, j + 1 => by simp [map_erase f l j]
/-- What the law keeps of the numbers. -/
def lastL (Z : List Int) (id : Int) : List Int := Z.filter (fun x => decide (x ≠ id)) ++ [id]
theorem lastL_nodup {Z : List Int} (h : Z.Nodup) (id : Int) : (lastL Z id).Nodup := by
  unfold lastL
  rw [nodup_snoc]
  exact ⟨h.filter _, by simp⟩
theorem place_neg {C : List It} {id : Int} (h : place C id < 0) : id ∉ ids C := by
  intro hm
  simp only [ids, List.mem_map] at hm
  obtain ⟨t, ht, he⟩ := hm
  unfold place idxV at h
  cases hq : C.findIdx? (fun t => t.id == id) with
  | none =>
    rw [List.findIdx?_eq_none_iff] at hq
    have := hq t ht
    simp [he] at this
  | some k => rw [hq] at h; simp at h; omega
theorem place_get {C : List It} {id : Int} {i : Nat} (h : place C id = i) : i < C.length ∧ (nthI C i).id = id := by
  unfold place idxV at h
  cases hq : C.findIdx? (fun t => t.id == id) with
  | none => rw [hq] at h; simp at h
  | some k =>
    rw [hq] at h
    have hk : k = i := Int.ofNat_inj.1 h
    subst hk
    obtain ⟨hlt, hp, _⟩ := List.findIdx?_eq_some_iff_getElem.1 hq
    refine ⟨hlt, ?_⟩
    have e : C[k] = nthI C k := by simp [nthI, List.getD, hlt]
    rw [e] at hp
    simpa using hp
theorem touch_out {room : Int} {C : List It} {id : Int} (h : inR id = false) : touchL room C id = C := by
  unfold touchL
  rw [if_pos (.inr h)]
theorem touch_ids {room : Int} {C : List It} {id : Int} (h : checkC room C = 0) (hi : inR id = true) (hl : C.length ≤ 100) :
    ids (touchL room C id) = lastL (ids C) id ∧ checkC room (touchL room C id) = 0 ∧ (touchL room C id).length ≤ C.length + 1 := by
  obtain ⟨h1, h2, h3, h4⟩ := (check_iff room C).1 h
  have key : ∀ C', ids C' = lastL (ids C) id → C'.length ≤ C.length + 1 → C'.all okI = true → ids C' = lastL (ids C) id ∧ checkC room C' = 0 ∧ C'.length ≤ C.length + 1 := fun C' e1 e2 e3 =>
    ⟨e1, (check_iff room C').2 ⟨h1, by omega, e3, by rw [e1]; exact lastL_nodup h4 id⟩, e2⟩
  unfold touchL
  rw [if_neg (by rw [hi]; simp [h])]
  by_cases hp : place C id < 0
  · rw [if_pos hp]
    refine key _ ?_ (by simp) ?_
    · unfold lastL
      have : (ids C).filter (fun x => decide (x ≠ id)) = ids C := by
        rw [List.filter_eq_self]
        intro x hx
        simp
        intro e
        exact place_neg hp (e ▸ hx)
      rw [this]; simp [ids]
    · rw [List.all_append, h3]
      simp [okI, hi]; decide
  · rw [if_neg hp]
    obtain ⟨i, hpi⟩ := Int.eq_ofNat_of_zero_le (show 0 ≤ place C id by omega)
    obtain ⟨hlt, hid⟩ := place_get hpi
    rw [hpi, Int.toNat_natCast]
    refine key _ ?_ ?_ ?_
    · unfold lastL
      have hg : (ids C)[i]? = some id := by
        rw [← hid]
        simp [ids, nthI, List.getD, hlt]
      rw [filter_erase _ i id h4 hg]
      simp [ids, map_erase, hid]
    · have e2 := List.length_eraseIdx (l := C) (i := i)
      rw [if_pos hlt] at e2
      rw [List.length_append, List.length_cons, List.length_nil]; omega
    · rw [List.all_append, List.all_eq_true.2 (fun x hx => List.all_eq_true.1 h3 x (List.mem_of_mem_eraseIdx hx))]
      have e : C[i] = nthI C i := by simp [nthI, List.getD, hlt]
      simp only [List.all_cons, List.all_nil, Bool.and_true, Bool.true_and]
      rw [← e]
      exact List.all_eq_true.1 h3 _ (List.getElem_mem hlt)
theorem change_ids {room : Int} {C : List It} {id : Int} {d : It → Int × It} (h : checkC room C = 0) (hd : ∀ t, okI t = true → okI (d t).2 = true ∧ (d t).2.id = t.id) :
    ids (changeR d C id).1 = ids C ∧ checkC room (changeR d C id).1 = 0 ∧ (changeR d C id).1.length = C.length := by
  obtain ⟨h1, h2, h3, h4⟩ := (check_iff room C).1 h
  unfold changeR
  by_cases hp : place C id < 0
  · rw [if_pos hp]; exact ⟨rfl, h, rfl⟩
  · rw [if_neg hp]
    obtain ⟨i, hpi⟩ := Int.eq_ofNat_of_zero_le (show 0 ≤ place C id by omega)
    obtain ⟨hlt, hid⟩ := place_get hpi
    rw [hpi, Int.toNat_natCast]
    have e : C[i] = nthI C i := by simp [nthI, List.getD, hlt]
    have hok := hd (nthI C i) (by rw [← e]; exact List.all_eq_true.1 h3 _ (List.getElem_mem hlt))
    have hids : ids (C.set i (d (nthI C i)).2) = ids C := by
      unfold ids
      rw [List.map_set, hok.2]
      apply List.ext_getElem (by simp)
      intro j k1 k2
      rw [List.getElem_set]
      split
      · rename_i hij; subst hij
        simp [e]
      · rfl
    refine ⟨hids, (check_iff _ _).2 ⟨h1, by simpa using h2, ?_, by rw [hids]; exact h4⟩, by simp⟩
    rw [List.all_eq_true]
    intro x hx
    rcases List.mem_or_eq_of_mem_set hx with hx | hx
    · exact List.all_eq_true.1 h3 x hx
    · rw [hx]; exact hok.1
theorem inR_iff (x : Int) : inR x = true ↔ 0 ≤ x ∧ x ≤ 1099511627776 := by simp [inR]
theorem pin_ok (t : It) (h : okI t = true) : okI (pinD t).2 = true ∧ (pinD t).2.id = t.id := by
  simp only [okI, Bool.and_eq_true, inR_iff] at h ⊢
  unfold pinD
  split
  · exact ⟨h, rfl⟩
  · refine ⟨⟨h.1, ?_⟩, rfl⟩
    show 0 ≤ Go.RowKit.wrap64 (t.pins + 1) ∧ Go.RowKit.wrap64 (t.pins + 1) ≤ _
    unfold Go.RowKit.wrap64
    omega
theorem unpin_ok (t : It) (h : okI t = true) : okI (unpinD t).2 = true ∧ (unpinD t).2.id = t.id := by
  simp only [okI, Bool.and_eq_true, inR_iff] at h ⊢
  unfold unpinD
  split
  · exact ⟨h, rfl⟩
  · refine ⟨⟨h.1, ?_⟩, rfl⟩
    show 0 ≤ Go.RowKit.wrap64 (t.pins - 1) ∧ Go.RowKit.wrap64 (t.pins - 1) ≤ _
    unfold Go.RowKit.wrap64
    omega
theorem mark_ok (b : Bool) (t : It) (h : okI t = true) : okI (markD b t).2 = true ∧ (markD b t).2.id = t.id := ⟨h, rfl⟩
end Go.Proofs.Ytiaahlkhpghnnaa
