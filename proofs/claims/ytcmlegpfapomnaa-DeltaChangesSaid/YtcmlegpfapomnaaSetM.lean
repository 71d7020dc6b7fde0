/- A set: a map from keys to true that the call makes. No function of the program is named. -/
import Derived.Test.YtcmlegpfapomnaaBase
import Derived.MapKept
namespace Go.Proofs.Ytcmlegpfapomnaa
open Go.RowKit Go.Instr

/-- How keys stand in a map. -/
structure KeyEnc (P : Program) (kt : TypeId) (α : Type) [DecidableEq α] (enc : α → Value) (kd : TypeDesc) : Prop where
  under : P.underlying kt = some kd
  same : ∀ x y, sameNow kd (enc x) (enc y) = some (decide (x = y))
  bits : ∀ x, sameBits 10000 (enc x) (enc x) = true
  ok : ∀ x e w, (checkKey e 10000 kt (enc x)).run P w = .ok () w
theorem get_map {P : Program} {w : World} {r : Nat} {es : Array MapEntry} {clock : Nat} (hb : w.heap[r]? = some (.map es clock)) : (getObj r).run P w = .ok (.map es clock) w := by
  simp [getObj, Sem.run, hb]
theorem set_map {P : Program} {w : World} {r : Nat} {es : Array MapEntry} {clock : Nat} (o : Obj) (hb : w.heap[r]? = some (.map es clock)) : (setObj r o).run P w = .ok () { w with heap := w.heap.setIfInBounds r o } := by
  simp [setObj, Sem.run, hb]
section
variable {P : Program} {kt t : TypeId} {α : Type} {enc : α → Value} {kd : TypeDesc}
/-- Block b is a map of just these keys, each to true. -/
def SetM (enc : α → Value) (w : World) (b : Nat) (ks : List α) : Prop :=
  ∃ es clock, w.heap[b]? = some (.map es clock) ∧ es.toList.map (·.key) = ks.map enc ∧ ∀ e ∈ es.toList, e.val = .bool true
theorem SetM.made (w : World) : SetM enc (w.alloc (.map #[] 0)) w.heap.size [] := ⟨#[], 0, heap_alloc_new w _, rfl, fun e h => by simp at h⟩
theorem SetM.lt {w : World} {b : Nat} {ks : List α} (h : SetM enc w b ks) : b < w.heap.size := by
  obtain ⟨es, cl, hb, _⟩ := h
  exact (Array.getElem?_eq_some_iff.1 hb).1
theorem SetM.of_block {w w' : World} {b : Nat} {ks : List α} (h : SetM enc w b ks) (hw : w'.heap[b]? = w.heap[b]?) : SetM enc w' b ks := by
  obtain ⟨es, cl, hb, r⟩ := h
  exact ⟨es, cl, hw.trans hb, r⟩
theorem SetM.below {w w' : World} {b B : Nat} {ks : List α} (h : SetM enc w b ks) (hb : Below B w w') (hlt : b < B) : SetM enc w' b ks := h.of_block (hb.block b hlt)
variable [DecidableEq α]
theorem findNow_in (K : KeyEnc P kt α enc kd) (x : α) : ∀ (es : List MapEntry) (ks : List α) (i : Nat), es.map (·.key) = ks.map enc →
    (x ∈ ks → ∃ j e, es[j]? = some e ∧ e.key = enc x ∧ findNow kd (enc x) es i = some (some (i + j, e.val))) ∧ (x ∉ ks → findNow kd (enc x) es i = some none)
  | [], [], i, _ => ⟨fun h => by simp at h, fun _ => rfl⟩
  | [], k :: ks, i, h => by simp at h
  | e :: es, [], i, h => by simp at h
  | e :: es, k :: ks, i, h => by
    simp only [List.map_cons, List.cons.injEq] at h
    have ih := findNow_in K x es ks (i + 1) h.2
    have hs := K.same x k
    by_cases hxk : x = k
    · subst hxk
      refine ⟨fun _ => ⟨0, e, rfl, h.1, ?_⟩, fun hn => absurd (List.mem_cons_self) hn⟩
      unfold findNow
      rw [h.1, hs, decide_eq_true rfl]
      rfl
    · refine ⟨fun hm => ?_, fun hn => ?_⟩
      · rcases List.mem_cons.1 hm with h1 | h1
        · exact absurd h1 hxk
        · obtain ⟨j, e', h2, h3, h4⟩ := ih.1 h1
          refine ⟨j + 1, e', by simpa using h2, h3, ?_⟩
          unfold findNow
          rw [h.1, hs, decide_eq_false hxk]
          show findNow kd (enc x) es (i + 1) = _
          rw [h4]
          congr 3
          omega
      · have := ih.2 (fun h1 => hn (List.mem_cons_of_mem _ h1))
        unfold findNow
        rw [h.1, hs, decide_eq_false hxk]
        exact this
theorem SetM.look (K : KeyEnc P kt α enc kd) {e : TypeId} (ht : P.underlying t = some (.map kt e)) {w : World} (hz : (zeroValue e).run P w = .ok (.bool false) w) {b : Nat} {ks : List α} (h : SetM enc w b ks) (x : α) :
    (Instr.lookup t (.map (some b)) (enc x) false).run P w = .ok (.bool (decide (x ∈ ks))) w := by
  obtain ⟨es, cl, hb, hk, hv⟩ := h
  have hf := findNow_in K x es.toList ks 0 hk
  by_cases hx : x ∈ ks
  · obtain ⟨j, en, h2, _, h4⟩ := hf.1 hx
    have hval := hv en (List.mem_of_getElem? h2)
    simp only [Instr.lookup, Sem.run_bind, run_underlying ht, Result.andThen_ok, Sem.run_pure, get_map hb, K.ok, findKey, run_underlying K.under, h4, hval, decide_eq_true hx]
    rfl
  · have h4 := hf.2 hx
    simp only [Instr.lookup, Sem.run_bind, run_underlying ht, Result.andThen_ok, Sem.run_pure, get_map hb, K.ok, findKey, run_underlying K.under, h4, hz, decide_eq_false hx]
    rfl
/-- The world with another object in a block. -/
def setBl (w : World) (b : Nat) (o : Obj) : World := { w with heap := w.heap.setIfInBounds b o }
omit [DecidableEq α] in
theorem setBl_grown {w : World} {b : Nat} (o : Obj) : w.grownBy (setBl w b o) (some b) :=
  ⟨rfl, rfl, rfl, by simp [setBl], fun k hk hne => by
    have : b ≠ k := fun e => hne (by rw [e])
    simp [setBl, this]⟩
theorem SetM.put (K : KeyEnc P kt α enc kd) {e : TypeId} (ht : P.underlying t = some (.map kt e)) {w : World} {b : Nat} {ks : List α} (h : SetM enc w b ks) (x : α) :
    ∃ o, (Instr.mapUpdate t (.map (some b)) (enc x) (.bool true)).run P w = .ok () (setBl w b o) ∧ SetM enc (setBl w b o) b (if x ∈ ks then ks else ks ++ [x]) := by
  have hlt := h.lt
  obtain ⟨es, cl, hb, hk, hv⟩ := h
  have hf := findNow_in K x es.toList ks 0 hk
  have hnew : ∀ o, (setBl w b o).heap[b]? = some o := fun o => by simp [setBl, hlt]
  by_cases hx : x ∈ ks
  · obtain ⟨j, en, h2, h3, h4⟩ := hf.1 hx
    rw [Nat.zero_add] at h4
    have h2' : es[j]? = some en := by rw [← Array.getElem?_toList]; exact h2
    refine ⟨.map (es.modify j fun e => { e with key := enc x, val := .bool true }) cl, ?_, es.modify j fun e => { e with key := enc x, val := .bool true }, cl, hnew _, ?_, ?_⟩
    · simp only [Instr.mapUpdate, Sem.run_bind, run_underlying ht, Result.andThen_ok, Sem.run_pure, get_map hb, K.ok, findKey, run_underlying K.under, h4, h2', Option.map_some, Option.getD_some, h3, keyThatStays, K.bits, if_true, set_map _ hb]
      rfl
    · rw [if_pos hx, ← hk]
      apply List.ext_getElem?
      intro i
      simp only [Array.toList_modify, List.getElem?_map, List.getElem?_modify]
      by_cases hij : j = i
      · subst hij
        rw [h2]
        simp [h3]
      · simp [hij]
    · intro e he
      obtain ⟨i, hi⟩ := List.getElem?_of_mem he
      simp only [Array.toList_modify, List.getElem?_modify] at hi
      cases hq : es.toList[i]? with
      | none => rw [hq] at hi; simp at hi
      | some e0 =>
        rw [hq] at hi
        by_cases hij : j = i
        · simp [hij] at hi
          rw [← hi]
        · simp [hij] at hi
          rw [← hi]
          exact hv e0 (List.mem_of_getElem? hq)
  · have h4 := hf.2 hx
    refine ⟨.map (es.push { key := enc x, val := .bool true, born := cl }) (cl + 1), ?_, es.push { key := enc x, val := .bool true, born := cl }, cl + 1, hnew _, ?_, ?_⟩
    · simp only [Instr.mapUpdate, Sem.run_bind, run_underlying ht, Result.andThen_ok, Sem.run_pure, get_map hb, K.ok, findKey, run_underlying K.under, h4, set_map _ hb]
      rfl
    · rw [if_neg hx]; simp [hk]
    · intro e he
      simp only [Array.toList_push, List.mem_append, List.mem_singleton] at he
      rcases he with he | he
      · exact hv e he
      · rw [he]
end
end Go.Proofs.Ytcmlegpfapomnaa
