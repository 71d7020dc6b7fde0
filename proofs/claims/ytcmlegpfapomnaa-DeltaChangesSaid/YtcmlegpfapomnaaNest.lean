/- Slices of slices: what came in, and what the call itself makes. No function of the program is named. -/
import Derived.Test.YtcmlegpfapomnaaApp
namespace Go.Proofs.Ytcmlegpfapomnaa
open Go.RowKit

theorem own_below {w w' : World} {base : Nat} {e : TypeId} {size : Nat} {v : Value} {n : Nat} {xs : List Value} (h : w.ownsRow base e size v n xs) (hb : Below w.heap.size w w') : w'.ownsRow base e size v n xs := by
  refine ⟨h.1, ?_⟩
  rcases h.2 with h2 | ⟨g, cap, cur, hv, hg, hh, r⟩
  · exact .inl h2
  · exact .inr ⟨g, cap, cur, hv, hg, (hb.block g (Array.getElem?_eq_some_iff.1 hh).1).trans hh, r⟩
/-- Rows of unlike elements lie apart. -/
theorem own_ne {w : World} {base base' : Nat} {e e' : TypeId} {size size' : Nat} {v v' : Value} {n n' : Nat} {xs xs' : List Value} (h : w.ownsRow base e size v n xs) (h' : w.ownsRow base' e' size' v' n' xs') (hne : e ≠ e') :
    v.ownBlock = none ∨ v.ownBlock ≠ v'.ownBlock := by
  rcases h.2 with ⟨rfl, _⟩ | ⟨g, cap, cur, rfl, _, hh, _⟩
  · left; rfl
  · right
    rcases h'.2 with ⟨rfl, _⟩ | ⟨g', cap', cur', rfl, _, hh', _⟩
    · simp [Value.ownBlock]
    · intro he
      have : g = g' := by simpa [Value.ownBlock] using he
      subst this
      rw [hh] at hh'
      injection hh' with hh'
      injection hh' with _ ht
      exact hne ht
theorem own_lt {w : World} {base : Nat} {e : TypeId} {size : Nat} {v : Value} {n : Nat} {xs : List Value} (h : w.ownsRow base e size v n xs) : ∀ k, v.ownBlock = some k → base ≤ k ∧ k < w.heap.size := h.lt

theorem own_mono {w : World} {base base' : Nat} {e : TypeId} {size : Nat} {v : Value} {n : Nat} {xs : List Value} (h : w.ownsRow base' e size v n xs) (hb : base ≤ base') : w.ownsRow base e size v n xs := by
  refine ⟨h.1, ?_⟩
  rcases h.2 with h2 | ⟨g, cap, cur, hv, hg, r⟩
  · exact .inl h2
  · exact .inr ⟨g, cap, cur, hv, Nat.le_trans hb hg, r⟩
/-- append(s, x...) where s, whatever it is, reads and has no room. -/
theorem wpList_app_grow {P : Program} {w : World} {ops : Array Oper} {rest : List Oper} {o : Oper} {a : Act} {Q : Exit → Act → World → Prop} (hgd : o.guard = none) (s x : Operand) (t : TypeId)
    (ho : o.op = .call { callee := .builtin .append, args := #[s, x], argTypes := #[t, t] })
    (base : Nat) (e : TypeId) (z : Value) (size bytes : Nat) (ht : P.underlying t = some (.slice e)) (hi : (P.info? e).map (fun i => (i.zero, i.size, i.bytes)) = some (some z, size, bytes))
    (hzs : z.cells.size = size) (hsz : 0 < size)
    (A0 : Option Addr) (c0 n : Nat) (xs : List Value) (hs : a.eval s = .slice A0 n c0) (hr0 : Rd w A0 n size xs)
    (A : Option Addr) (m c : Nat) (news : List Value) (hx : a.eval x = .slice A m c) (hr : Rd w A m size news) (h1 : ∀ u ∈ news, u.oneCell' = true) (hg : c0 < n + m) (hm : 0 < m)
    (h63 : n + m ≤ maxLen) (hbytes : (n + m) * bytes ≤ 140737488355328) (hbase : base ≤ w.heap.size)
    (h : ∀ g' c' w', w'.ownsRow base e size (.slice (some ⟨g', 0, none⟩) (n + m) c') (n + m) (xs ++ news) → w.grownBy w' none → g' = w.heap.size →
      wpList P ops Q rest (a.put o.dst (.slice (some ⟨g', 0, none⟩) (n + m) c')) w') : wpList P ops Q (o :: rest) a w := by
  obtain ⟨i0, hi0, hz0, rfl, rfl⟩ := info_parts hi
  refine wpList_plain hgd fun K hK => ?_
  have hp : 0 < news.length := by rw [hr.1]; exact Nat.mul_pos hm hsz
  obtain ⟨b, o', rfl, _, hc⟩ := hr.at_ hp
  have hold : (Builtin.firstCells i0.size n (Value.slice A0 n c0)).run P w.drew = .ok xs.toArray w.drew := by
    by_cases h0 : 0 < xs.length
    · obtain ⟨b', o'', rfl, _, hc'⟩ := hr0.at_ h0
      exact run_firstCells_some (P := P) w.drew i0.size n ⟨b', o'', none⟩ n c0 xs hr0.1 (fun j u hu => by rw [add_plain]; exact hc' j u hu)
    · have hx0 : xs = [] := List.eq_nil_of_length_eq_zero (by omega)
      subst hx0
      have hn0 : n * i0.size = 0 := by have := hr0.1; simpa using this.symm
      cases A0 <;> simp [Builtin.firstCells, hn0, loadCells, loadCellsFrom]
  have hr' := run_append_grow_src (P := P) w t t o.type e i0 z ht hi0 hz0 A0 n c0 xs hold (.slice (some ⟨b, o', none⟩) m c) m news
    (Src.ofSlice w ht ⟨b, o', none⟩ m c news hr.1 (fun j u hu => by rw [add_plain]; exact hc j u hu) h1) hg (by simp only [maxLen] at h63; omega) (growslice_fits (by omega) hbytes)
  have hgr := own_grow (w := w) (base := base) (e := e) (size := i0.size) (n := n) (m := m) (old := c0) (xs := xs) (news := news) (z := z.cells) hr0.1 hbase hzs hr.1 h63 none
  unfold Oper.wp execOp
  simp only [ho, resolve, invoke, builtin, Sem.run_bind, Sem.run_pure, Result.andThen_ok, List.map_toArray, List.map_cons, List.map_nil, hs, hx, hr']
  exact hK _ _ (h _ _ _ hgr.1 hgr.2 rfl)

/-- A slice of slices of bytes that reads as L. -/
def Rbb (w : World) (A : Option Addr) (n : Nat) (L : List (List UInt8)) : Prop :=
  L.length = n ∧ ∃ vs : List Value, Rd w A n 1 vs ∧ ∀ (i : Nat) (l : List UInt8), L[i]? = some l → ∃ Ai ni ci, vs[i]? = some (Value.slice Ai ni ci) ∧ Rb w Ai ni l ∧ ni ≤ ci ∧ ci ≤ maxLen
theorem Rbb.below {w w' : World} {A : Option Addr} {n : Nat} {L : List (List UInt8)} (h : Rbb w A n L) (hb : Below w.heap.size w w') : Rbb w' A n L := by
  obtain ⟨hl, vs, hr, hi⟩ := h
  exact ⟨hl, vs, hr.below hb, fun i l hl => by
    obtain ⟨Ai, ni, ci, h1, h2, h3⟩ := hi i l hl
    exact ⟨Ai, ni, ci, h1, h2.below hb, h3⟩⟩
/-- Its i-th element. -/
theorem Rbb.at_ {w : World} {A : Option Addr} {n : Nat} {L : List (List UInt8)} (h : Rbb w A n L) {i : Nat} (hi : i < n) :
    ∃ b o Ai ni ci, A = some ⟨b, o, none⟩ ∧ b < w.heap.size ∧ w.cell? ⟨b, o + i, none⟩ = some (Value.slice Ai ni ci) ∧ Rb w Ai ni (L.getD i []) ∧ ni ≤ ci ∧ ci ≤ maxLen := by
  obtain ⟨hl, vs, hr, hx⟩ := h
  have hvl : vs.length = n := by simpa using hr.1
  obtain ⟨b, o, rfl, hb, hc⟩ := hr.at_ (by omega)
  have hLi : L[i]? = some (L.getD i []) := by simp [List.getD, show i < L.length by omega]
  obtain ⟨Ai, ni, ci, h1, h2, h3, h4⟩ := hx i _ hLi
  exact ⟨b, o, Ai, ni, ci, rfl, hb, hc i _ h1, h2, h3, h4⟩

/-- A slice of slices that the call itself makes: 'eS' the slices' type, 'eB' the bytes'. -/
def Obb (eS eB : TypeId) (w : World) (base : Nat) (A : Option Addr) (c n : Nat) (L : List (List UInt8)) : Prop :=
  L.length = n ∧ ∃ vs : List Value, w.ownsRow base eS 1 (Value.slice A n c) n vs ∧ ∀ (i : Nat) (l : List UInt8), L[i]? = some l → ∃ Ai ni ci, vs[i]? = some (Value.slice Ai ni ci) ∧ w.ownsRow base eB 1 (Value.slice Ai ni ci) ni (by8 l)
section
variable {eS eB : TypeId} {w w' : World} {base : Nat} {A : Option Addr} {c n : Nat} {L : List (List UInt8)}
theorem Obb.nil (w : World) (base : Nat) : Obb eS eB w base none 0 0 [] := ⟨rfl, [], World.ownsRow_nil _ _ _ _, fun i l h => by simp at h⟩
theorem Obb.below (h : Obb eS eB w base A c n L) (hb : Below w.heap.size w w') : Obb eS eB w' base A c n L := by
  obtain ⟨hl, vs, ho, hi⟩ := h
  exact ⟨hl, vs, own_below ho hb, fun i l hl => by
    obtain ⟨Ai, ni, ci, h1, h2⟩ := hi i l hl
    exact ⟨Ai, ni, ci, h1, own_below h2 hb⟩⟩
theorem Obb.mono {base' : Nat} (h : Obb eS eB w base' A c n L) (hb : base ≤ base') : Obb eS eB w base A c n L := by
  obtain ⟨hl, vs, ho, hi⟩ := h
  exact ⟨hl, vs, own_mono ho hb, fun i l hl => by
    obtain ⟨Ai, ni, ci, h1, h2⟩ := hi i l hl
    exact ⟨Ai, ni, ci, h1, own_mono h2 hb⟩⟩
theorem Obb.push (hne : eB ≠ eS) (h : Obb eS eB w base A c n L) {vs : List Value} (hvs : ∀ (i : Nat) (l : List UInt8), L[i]? = some l → ∃ Ai ni ci, vs[i]? = some (Value.slice Ai ni ci) ∧ w.ownsRow base eB 1 (Value.slice Ai ni ci) ni (by8 l))
    (ho : w.ownsRow base eS 1 (Value.slice A n c) n vs) {Ab : Option Addr} {nb cb : Nat} {l : List UInt8} (hb : w.ownsRow base eB 1 (Value.slice Ab nb cb) nb (by8 l)) {A' : Option Addr} {c' : Nat}
    (ho' : w'.ownsRow base eS 1 (Value.slice A' (n + 1) c') (n + 1) (vs ++ [Value.slice Ab nb cb])) (hg : w.grownBy w' (Value.slice A n c).ownBlock) : Obb eS eB w' base A' c' (n + 1) (L ++ [l]) := by
  have hvl : vs.length = n := by simpa using ho.1
  refine ⟨by simp [h.1], _, ho', fun i x hx => ?_⟩
  by_cases hi : i < n
  · rw [List.getElem?_append_left (by rw [h.1]; exact hi)] at hx
    obtain ⟨Ai, ni, ci, h1, h2⟩ := hvs i x hx
    exact ⟨Ai, ni, ci, by rw [List.getElem?_append_left (by omega)]; exact h1, h2.kept hg (own_ne h2 ho hne)⟩
  · have hi2 : i = n := by
      have := (List.getElem?_eq_some_iff.1 hx).1
      simp [h.1] at this
      omega
    subst hi2
    rw [List.getElem?_append_right (by rw [h.1]; exact Nat.le_refl _), h.1, Nat.sub_self] at hx
    simp at hx
    subst hx
    exact ⟨Ab, nb, cb, by rw [List.getElem?_append_right (by omega), hvl, Nat.sub_self]; rfl, hb.kept hg (own_ne hb ho hne)⟩
theorem own_cap {xs : List Value} (h : w.ownsRow base eB 1 (Value.slice A n c) n xs) : n ≤ c ∧ c ≤ maxLen := by
  rcases h.2 with ⟨hv, h0⟩ | ⟨g, cap, cur, hv, _, _, hnc, hcm, _⟩
  · injection hv with _ _ e3; subst e3; omega
  · injection hv with _ _ e3; subst e3; exact ⟨hnc, hcm⟩
theorem Obb.rbb (h : Obb eS eB w base A c n L) : Rbb w A n L := by
  obtain ⟨hl, vs, ho, hi⟩ := h
  exact ⟨hl, vs, Rd.of_own ho, fun i l hl => by
    obtain ⟨Ai, ni, ci, h1, h2⟩ := hi i l hl
    exact ⟨Ai, ni, ci, h1, Rb.of_own h2, (own_cap h2).1, (own_cap h2).2⟩⟩
end

end Go.Proofs.Ytcmlegpfapomnaa
