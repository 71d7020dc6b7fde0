/- What an argument hands over that is a slice of structs of one-cell fields. No function of the program is named. -/
import Derived.Test.YtcmlegpfapomnaaOpen
import Derived.Deep.Slices
import Derived.Deep.Fields
import Derived.ChangeSame
namespace Go.Proofs.Ytcmlegpfapomnaa
open Go.RowKit Go.ChangeShapes Go.WideShapes Go.Deep

section
variable {H : Type} {enc : TypeId × Value → H} {P : Program} {w : World} {base : Nat} {held : Bool}

/-- The cells of a slice of structs, all in one row; each reads as its field. -/
theorem open_rows {t e : TypeId} {fs : Array Field} {m : Nat} {A : Option Addr} {n c fuel : Nat} {x : DataW H × List MemPlace} (ht : P.underlying t = some (.slice e)) (he : P.underlying e = some (.struct fs))
    (hone : oneCellFields P fs = true) (hC : P.cellsOf e = fs.size) (hm : fs.size = m) (hm0 : 0 < m) (h : DataW.trod enc P w base (fun _ => true) held fuel t [.slice A n c] = some x) :
    ∃ vs, Rd w A n m vs ∧ n ≤ c ∧ c ≤ maxLen ∧ ∀ (k : Nat) (f : Field), k < n * m → fs[k % m]? = some f → ∃ v y N, vs[k]? = some v ∧ DataW.trod enc P w base (fun _ => true) held N f.type [v] = some y := by
  subst hm
  rcases open_slice ht h with ⟨hcs, _⟩ | ⟨a, len, cap, mm, n', D, Pl, hcs, hb, hl, hm, hmm, hx, hi⟩
  · simp only [List.cons.injEq, Value.slice.injEq, and_true] at hcs
    obtain ⟨rfl, rfl, rfl⟩ := hcs
    exact ⟨[], Rd.none_ _ _ _, Nat.le_refl _, Nat.zero_le _, fun k f hk _ => by omega⟩
  · simp only [List.cons.injEq, Value.slice.injEq, and_true] at hcs
    obtain ⟨rfl, rfl, rfl⟩ := hcs
    simp only [if_true] at hmm
    subst hmm
    have each : ∀ k, k < n * fs.size → ∃ v : Value, w.cell? (a.add k) = some v ∧ ∀ f, fs[k % fs.size]? = some f → ∃ y N, DataW.trod enc P w base (fun _ => true) held N f.type [v] = some y := fun k hk => by
      have hi2 : k / fs.size < n := Nat.div_lt_of_lt_mul (by rw [Nat.mul_comm]; exact hk)
      obtain ⟨cs', hc, ht'⟩ := hi (k / fs.size) (by omega)
      rw [hC] at hc
      obtain ⟨ys, N, _, _, _, hyl, hf⟩ := DataW.trod_struct he ht'
      obtain ⟨_, hcl, hat⟩ := World.cells?_some hc
      have hjl : k % fs.size < fs.size := Nat.mod_lt _ hm0
      have hcell := hat (k % fs.size) hjl
      have hv : cs'[k % fs.size]? = some (cs'[k % fs.size]'(by omega)) := List.getElem?_eq_getElem (by omega)
      refine ⟨cs'[k % fs.size]'(by omega), ?_, fun f hj => ?_⟩
      · have e : (a.add (k / fs.size * fs.size)).add (k % fs.size) = a.add k := by
          rw [Go.Deep.add_add]; congr 1; rw [Nat.mul_comm]; exact Nat.div_add_mod k fs.size
        rw [← e, hcell, hv]
      · obtain ⟨ho, hk'⟩ := hone_of hone (k % fs.size) f hj
        have h1 := hf (k % fs.size) f hj
        rw [ho, hk'] at h1
        have hone' : (cs'.drop (k % fs.size)).take 1 = [cs'[k % fs.size]'(by omega)] := by
          rw [List.drop_eq_getElem_cons (by omega)]
          rfl
        rw [hone'] at h1
        exact ⟨_, _, h1.trans (List.getElem?_eq_getElem (by omega))⟩
    obtain ⟨V, hV⟩ := choose_lt each
    refine ⟨(List.range (n * fs.size)).map V, ⟨by simp, fun hp => ?_⟩, hl, hm, fun k f hk hj => ?_⟩
    · have hn : 0 < n * fs.size := by simpa using hp
      obtain ⟨b, o, sp⟩ := a
      obtain rfl : sp = none := by simpa [Addr.add] using World.cell?_spot (hV 0 (by omega)).1
      refine ⟨b, o, rfl, fun j u hu => ?_⟩
      have hj : j < n * fs.size := by have := (List.getElem?_eq_some_iff.1 hu).1; simpa using this
      simp [hj] at hu
      subst hu
      rw [← add_plain, (hV j hj).1]
    · obtain ⟨y, N, ht⟩ := (hV k hk).2 f hj
      exact ⟨V k, y, N, by simp [hk], ht⟩
/-- A row of small numbers. -/
theorem row_u8 {vs : List Value} (h : ∀ k, k < vs.length → ∃ a : UInt8, vs[k]? = some (.int .u8 (a.toNat : Int))) : ∃ F, vs = by8 F := by
  obtain ⟨V, hV⟩ := choose_lt (n := vs.length) (p := fun k (a : UInt8) => vs[k]? = some (.int .u8 (a.toNat : Int))) h
  refine ⟨(List.range vs.length).map V, List.ext_getElem? fun k => ?_⟩
  by_cases hk : k < vs.length
  · rw [hV k hk]
    simp [by8, hk]
  · rw [List.getElem?_eq_none (by omega), List.getElem?_eq_none (by simp [by8]; omega)]
end
end Go.Proofs.Ytcmlegpfapomnaa
