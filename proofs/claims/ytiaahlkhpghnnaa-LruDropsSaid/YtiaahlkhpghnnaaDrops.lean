/- LruDrops in plain words: victims that are dropped, one behind the other. -/
import Derived.Test.YtiaahlkhpghnnaaLj
namespace Go.Proofs.Ytiaahlkhpghnnaa

/-- Items stand as they stood in L. -/
def asIn (L X : List It) : Prop := X.Pairwise fun s t => place L s.id < place L t.id
theorem asIn_self {L : List It} (h : (ids L).Nodup) : asIn L L := by
  unfold asIn
  rw [List.pairwise_iff_getElem]
  intro i j hi hj hij
  have e : ∀ k (hk : k < L.length), L[k] = nthI L k := fun k hk => by simp [nthI, List.getD, hk]
  rw [e i hi, e j hj, place_self.2 h i hi, place_self.2 h j hj]
  omega
/-- The first item that nobody holds goes. -/
theorem drops_step {L X : List It} {j : Nat} {at' : Int} (h : asIn L X) (hj : idxV (fun t => t.pins == 0) X = j) (hat : ∀ t ∈ X, t.pins = 0 → at' < place L t.id) :
    j < X.length ∧ (nthI X j).pins = 0 ∧ dropR X (nthI X j).id = (X.eraseIdx j, 0) ∧ at' < place L (nthI X j).id ∧ asIn L (X.eraseIdx j) ∧ (∀ t ∈ X.eraseIdx j, t.pins = 0 → place L (nthI X j).id < place L t.id) ∧ (X.eraseIdx j).length + 1 = X.length := by
  have hfi : X.findIdx? (fun t => t.pins == 0) = some j := by
    unfold idxV at hj
    cases hq : X.findIdx? (fun t => t.pins == 0) with
    | none => rw [hq] at hj; simp at hj
    | some k => rw [hq] at hj; congr 1; exact Int.ofNat_inj.1 hj
  obtain ⟨hlt, hp, hno⟩ := List.findIdx?_eq_some_iff_getElem.1 hfi
  have e : ∀ k (hk : k < X.length), X[k] = nthI X k := fun k hk => by simp [nthI, List.getD, hk]
  have hpins : (nthI X j).pins = 0 := by rw [← e j hlt]; simpa using hp
  have hpw := List.pairwise_iff_getElem.1 h
  have hplace : place X (nthI X j).id = j := by
    refine idxV_at hlt (by simp) (fun i hi => ?_)
    have := hpw i j (by omega) hlt hi
    rw [e i (by omega), e j hlt] at this
    have hne : (nthI X i).id ≠ (nthI X j).id := fun e => by rw [e] at this; omega
    simpa using hne
  refine ⟨hlt, hpins, ?_, hat _ (by rw [← e j hlt]; exact List.getElem_mem hlt) hpins, ?_, fun t ht hpt => ?_, ?_⟩
  · unfold dropR
    rw [hplace, if_neg (by omega), Int.toNat_natCast, if_neg (by rw [hpins]; omega)]
  · exact List.Pairwise.sublist (List.eraseIdx_sublist X j) h
  · obtain ⟨i, hi, rfl⟩ := List.getElem_of_mem ht
    rw [List.getElem_eraseIdx] at hpt ⊢
    split at hpt
    · rename_i hij
      have := hno i hij
      simp [hpt] at this
    · rename_i hij
      rw [dif_neg hij]
      have hl : i < X.length - 1 := by rw [List.length_eraseIdx, if_pos hlt] at hi; exact hi
      have := hpw j (i + 1) hlt (by omega) (by omega)
      rw [e j hlt] at this
      exact this
  · rw [List.length_eraseIdx, if_pos hlt]; omega
/-- How many nobody holds. -/
def freeK (X : List It) (k : Nat) : Nat := ((X.take k).filter fun t => t.pins == 0).length
theorem freeK_succ (X : List It) (k : Nat) (h : k < X.length) : freeK X (k + 1) = freeK X k + if (nthI X k).pins = 0 then 1 else 0 := by
  unfold freeK
  rw [List.take_add_one, List.getElem?_eq_getElem h, List.filter_append, List.length_append]
  have e : X[k] = nthI X k := by simp [nthI, List.getD, h]
  by_cases hp : (nthI X k).pins = 0
  · simp [e, hp]
  · simp [e, hp]
theorem freeK_none {X : List It} (h : idxV (fun t => t.pins == 0) X < 0) : ∀ k, freeK X k = 0 := fun k => by
  have hn : X.findIdx? (fun t => t.pins == 0) = none := by
    unfold idxV at h
    cases hq : X.findIdx? (fun t => t.pins == 0) with
    | none => rfl
    | some k => rw [hq] at h; simp at h; omega
  unfold freeK
  rw [List.findIdx?_eq_none_iff] at hn
  rw [List.length_eq_zero_iff, List.filter_eq_nil_iff]
  intro t ht
  have := hn t (List.mem_of_mem_take ht)
  simp [this]
end Go.Proofs.Ytiaahlkhpghnnaa
