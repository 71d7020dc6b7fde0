/- append as a step of a region that draws its order; slices of slices of which some came in and some are the call's own. No function of the program is named. -/
import Derived.Test.YtcmlegpfapomnaaNest
import Derived.Deep.RegionHeld3
namespace Go.Proofs.Ytcmlegpfapomnaa
open Go.RowKit

section
variable {P : Program} {w : World}
theorem run_app_any (base : Nat) (t ty e : TypeId) (z : Value) (size bytes : Nat) (ht : P.underlying t = some (.slice e)) (hi : (P.info? e).map (fun i => (i.zero, i.size, i.bytes)) = some (some z, size, bytes))
    (hzs : z.cells.size = size) (hsz : 0 < size) (A0 : Option Addr) (c0 n : Nat) (xs : List Value) (hown : w.ownsRow base e size (.slice A0 n c0) n xs)
    (A : Option Addr) (m c : Nat) (news : List Value) (hr : Rd w A m size news) (h1 : ∀ u ∈ news, u.oneCell' = true)
    (h63 : n + m ≤ maxLen) (hbytes : (n + m) * bytes ≤ 140737488355328) (hbase : base ≤ w.heap.size) :
    ∃ A' c' w', (Builtin.append_ #[t, t] ty #[.slice A0 n c0, .slice A m c]).run P w = .ok (.slice A' (n + m) c') w' ∧ w'.ownsRow base e size (.slice A' (n + m) c') (n + m) (xs ++ news) ∧
      w.grownBy w' (Value.slice A0 n c0).ownBlock ∧ ((Value.slice A' (n + m) c').ownBlock = (Value.slice A0 n c0).ownBlock ∨ (Value.slice A' (n + m) c').ownBlock = some w.heap.size) := by
  obtain ⟨i0, hi0, hz0, hz1, hz2⟩ := info_parts hi
  by_cases hm : m = 0
  · subst hm
    have hn : news = [] := List.eq_nil_of_length_eq_zero (by simpa using hr.1)
    subst hn
    refine ⟨A0, c0, w, ?_, by simpa using hown, World.grownBy.refl w _, .inl rfl⟩
    rcases hown.2 with ⟨hv, rfl⟩ | ⟨g, cap, cur, hv, _, _, hnc, _⟩
    · injection hv with e1 e2 e3
      subst e1; subst e3
      cases A <;> simp [Builtin.append_, run_underlying ht, sizeOf, typeInfo, hi0, Builtin.lenOf, Builtin.firstCells, loadCells, loadCellsFrom]
    · injection hv with e1 e2 e3
      subst e1; subst e3
      cases A <;> simp [Builtin.append_, run_underlying ht, sizeOf, typeInfo, hi0, Builtin.lenOf, Builtin.firstCells, hnc, storeCells, loadCells, loadCellsFrom]
  · have hp : 0 < news.length := by rw [hr.1]; exact Nat.mul_pos (by omega) hsz
    obtain ⟨b, o', rfl, _, hc⟩ := hr.at_ hp
    obtain ⟨v', w', hrun, h2, h3, _, h5⟩ := run_append_own_at (P := P) w base t ty e i0 z size bytes ht hi0 hz0 hz1 hz2 hzs hsz (.slice A0 n c0) n xs hown ⟨b, o', none⟩ m c news hr.1
      (fun j u hu => by rw [add_plain]; exact hc j u hu) h1 h63 hbytes hbase
    obtain ⟨g, cap, rfl, _, _⟩ := h2.form (by omega)
    exact ⟨_, _, w', hrun, h2, h3, h5⟩

/-- append(s, x...) in a region that draws its order. -/
theorem step_app {ops : Array Oper} {o : Oper} {a : Act} {K : Act → World → Prop} {Q : Exit → Act → World → Prop} {E : Prop} (hgd : o.guard = none) (s x : Operand) (t : TypeId)
    (ho : o.op = .call { callee := .builtin .append, args := #[s, x], argTypes := #[t, t] })
    (base : Nat) (e : TypeId) (z : Value) (size bytes : Nat) (ht : P.underlying t = some (.slice e)) (hi : (P.info? e).map (fun i => (i.zero, i.size, i.bytes)) = some (some z, size, bytes))
    (hzs : z.cells.size = size) (hsz : 0 < size)
    (A0 : Option Addr) (c0 n : Nat) (xs : List Value) (hs : a.eval s = .slice A0 n c0) (hown : w.ownsRow base e size (.slice A0 n c0) n xs)
    (A : Option Addr) (m c : Nat) (news : List Value) (hx : a.eval x = .slice A m c) (hr : Rd w A m size news) (h1 : ∀ u ∈ news, u.oneCell' = true)
    (h63 : n + m ≤ maxLen) (hbytes : (n + m) * bytes ≤ 140737488355328) (hbase : base ≤ w.heap.size)
    (h : ∀ A' c' w', w'.ownsRow base e size (.slice A' (n + m) c') (n + m) (xs ++ news) → w.grownBy w' (Value.slice A0 n c0).ownBlock →
      ((Value.slice A' (n + m) c').ownBlock = (Value.slice A0 n c0).ownBlock ∨ (Value.slice A' (n + m) c').ownBlock = some w.heap.size) →
      K (a.put o.dst (.slice A' (n + m) c')) w') : if Region.wanted o (yielded ops a.tmps) = true then Oper.wp P o a w K Q else E := by
  have hw : Region.wanted o (yielded ops a.tmps) = true := by simp [Region.wanted, hgd]
  rw [if_pos hw]
  obtain ⟨A', c', w', hrun, h2, h3, h4⟩ := run_app_any base t o.type e z size bytes ht hi hzs hsz A0 c0 n xs hown A m c news hr h1 h63 hbytes hbase
  unfold Oper.wp execOp
  simp only [ho, resolve, invoke, builtin, Sem.run_bind, Sem.run_pure, Result.andThen_ok, List.map_toArray, List.map_cons, List.map_nil, hs, hx, hrun]
  exact h A' c' w' h2 h3 h4
end

/-- append(s, str...) in a region that draws its order. -/
theorem step_app_str {P : Program} {w : World} {ops : Array Oper} {o : Oper} {a : Act} {K : Act → World → Prop} {Q : Exit → Act → World → Prop} {E : Prop} (hgd : o.guard = none) (s x : Operand) (t tx : TypeId)
    (ho : o.op = .call { callee := .builtin .append, args := #[s, x], argTypes := #[t, tx] })
    (base : Nat) (e : TypeId) (z : Value) (bytes : Nat) (ht : P.underlying t = some (.slice e)) (htx : P.underlying tx = some .string) (hi : (P.info? e).map (fun i => (i.zero, i.size, i.bytes)) = some (some z, 1, bytes))
    (hzs : z.cells.size = 1) (A0 : Option Addr) (c0 n : Nat) (xs : List Value) (hs : a.eval s = .slice A0 n c0) (hown : w.ownsRow base e 1 (.slice A0 n c0) n xs)
    (str : ByteArray) (hx : a.eval x = .string str) (h63 : n + str.size ≤ maxLen) (hbytes : (n + str.size) * bytes ≤ 140737488355328) (hbase : base ≤ w.heap.size)
    (h : ∀ A' c' w', w'.ownsRow base e 1 (.slice A' (n + str.size) c') (n + str.size) (xs ++ by8 str.data.toList) → w.grownBy w' (Value.slice A0 n c0).ownBlock →
      ((Value.slice A' (n + str.size) c').ownBlock = (Value.slice A0 n c0).ownBlock ∨ (Value.slice A' (n + str.size) c').ownBlock = some w.heap.size) →
      K (a.put o.dst (.slice A' (n + str.size) c')) w') : if Region.wanted o (yielded ops a.tmps) = true then Oper.wp P o a w K Q else E := by
  have hw : Region.wanted o (yielded ops a.tmps) = true := by simp [Region.wanted, hgd]
  rw [if_pos hw]
  obtain ⟨A', c', w', hrun, h2, h3, h4⟩ := run_app_src (P := P) (w := w) base t tx o.type e z 1 bytes ht hi hzs A0 c0 n xs hown (.string str) str.size (byteCells str) (Src.ofString w htx str) h63 hbytes hbase
  unfold Oper.wp execOp
  simp only [ho, resolve, invoke, builtin, Sem.run_bind, Sem.run_pure, Result.andThen_ok, List.map_toArray, List.map_cons, List.map_nil, hs, hx, hrun]
  exact h A' c' w' h2 h3 h4

/-- A slice of slices of the call's own row, of which each element is the call's own or reads as it did in the world 'w0'. -/
def Mbb (eS eB : TypeId) (w0 w : World) (base : Nat) (A : Option Addr) (c n : Nat) (L : List (List UInt8)) : Prop :=
  L.length = n ∧ ∃ vs : List Value, w.ownsRow base eS 1 (Value.slice A n c) n vs ∧ ∀ (i : Nat) (l : List UInt8), L[i]? = some l → ∃ Ai ni ci, vs[i]? = some (Value.slice Ai ni ci) ∧ ni ≤ ci ∧ ci ≤ maxLen ∧ (Rb w0 Ai ni l ∨ w.ownsRow base eB 1 (Value.slice Ai ni ci) ni (by8 l))
section
variable {eS eB : TypeId} {w0 w w' : World} {base : Nat} {A : Option Addr} {c n : Nat} {L : List (List UInt8)}
theorem Mbb.nil (w0 w : World) (base : Nat) : Mbb eS eB w0 w base none 0 0 [] := ⟨rfl, [], World.ownsRow_nil _ _ _ _, fun i l h => by simp at h⟩
theorem Mbb.below (h : Mbb eS eB w0 w base A c n L) (hb : Below w.heap.size w w') : Mbb eS eB w0 w' base A c n L := by
  obtain ⟨hl, vs, ho, hi⟩ := h
  exact ⟨hl, vs, own_below ho hb, fun i l hl => by
    obtain ⟨Ai, ni, ci, h1, h2, h3, h4⟩ := hi i l hl
    exact ⟨Ai, ni, ci, h1, h2, h3, h4.imp id fun h => own_below h hb⟩⟩
theorem Mbb.mono {base' : Nat} (h : Mbb eS eB w0 w base' A c n L) (hb : base ≤ base') : Mbb eS eB w0 w base A c n L := by
  obtain ⟨hl, vs, ho, hi⟩ := h
  exact ⟨hl, vs, own_mono ho hb, fun i l hl => by
    obtain ⟨Ai, ni, ci, h1, h2, h3, h4⟩ := hi i l hl
    exact ⟨Ai, ni, ci, h1, h2, h3, h4.imp id fun h => own_mono h hb⟩⟩
/-- One slice more. -/
theorem Mbb.push (hne : eB ≠ eS) {vs : List Value} (hl : L.length = n)
    (hvs : ∀ (i : Nat) (l : List UInt8), L[i]? = some l → ∃ Ai ni ci, vs[i]? = some (Value.slice Ai ni ci) ∧ ni ≤ ci ∧ ci ≤ maxLen ∧ (Rb w0 Ai ni l ∨ w.ownsRow base eB 1 (Value.slice Ai ni ci) ni (by8 l)))
    (ho : w.ownsRow base eS 1 (Value.slice A n c) n vs) {Ab : Option Addr} {nb cb : Nat} {l : List UInt8} (hnc : nb ≤ cb) (hcm : cb ≤ maxLen) (hb : Rb w0 Ab nb l ∨ w.ownsRow base eB 1 (Value.slice Ab nb cb) nb (by8 l)) {A' : Option Addr} {c' : Nat}
    (ho' : w'.ownsRow base eS 1 (Value.slice A' (n + 1) c') (n + 1) (vs ++ [Value.slice Ab nb cb])) (hg : w.grownBy w' (Value.slice A n c).ownBlock) : Mbb eS eB w0 w' base A' c' (n + 1) (L ++ [l]) := by
  have hvl : vs.length = n := by simpa using ho.1
  have kept : ∀ {Ai : Option Addr} {ni ci : Nat} {x : List UInt8}, (Rb w0 Ai ni x ∨ w.ownsRow base eB 1 (Value.slice Ai ni ci) ni (by8 x)) → (Rb w0 Ai ni x ∨ w'.ownsRow base eB 1 (Value.slice Ai ni ci) ni (by8 x)) :=
    fun h => h.imp id fun h => h.kept hg (own_ne h ho hne)
  refine ⟨by simp [hl], _, ho', fun i x hx => ?_⟩
  by_cases hi : i < n
  · rw [List.getElem?_append_left (by rw [hl]; exact hi)] at hx
    obtain ⟨Ai, ni, ci, h1, h2, h3, h4⟩ := hvs i x hx
    exact ⟨Ai, ni, ci, by rw [List.getElem?_append_left (by omega)]; exact h1, h2, h3, kept h4⟩
  · have hi2 : i = n := by
      have := (List.getElem?_eq_some_iff.1 hx).1
      simp [hl] at this
      omega
    subst hi2
    rw [List.getElem?_append_right (by rw [hl]; exact Nat.le_refl _), hl, Nat.sub_self] at hx
    simp at hx
    subst hx
    exact ⟨Ab, nb, cb, by rw [List.getElem?_append_right (by omega), hvl, Nat.sub_self]; rfl, hnc, hcm, kept hb⟩
theorem Mbb.rbb (h : Mbb eS eB w0 w base A c n L) (hb : Below w0.heap.size w0 w) : Rbb w A n L := by
  obtain ⟨hl, vs, ho, hi⟩ := h
  exact ⟨hl, vs, Rd.of_own ho, fun i l hl => by
    obtain ⟨Ai, ni, ci, h1, h2, h3, h4⟩ := hi i l hl
    refine ⟨Ai, ni, ci, h1, ?_, h2, h3⟩
    rcases h4 with h4 | h4
    · exact h4.below hb
    · exact Rb.of_own h4⟩
end

end Go.Proofs.Ytcmlegpfapomnaa
