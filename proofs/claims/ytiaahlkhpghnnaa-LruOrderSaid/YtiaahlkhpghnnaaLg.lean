/- The walk of slices.Delete of one item. -/
import Derived.Test.YtiaahlkhpghnnaaLf
namespace Go.Proofs.Ytiaahlkhpghnnaa
open Go.RowKit Go.Instr

theorem slice26 : Try.prog.underlying 26 = some (.slice 47) := Try.underlying26
section
variable (g : Nat) (n c : Nat)
theorem cut_hi (i : Nat) (h : i ≤ c) (w : World) : (Instr.slice 26 (.slice (some ⟨g, 0, none⟩) n c) none (some (.int .i64 (i : Int))) none).run Try.prog w = .ok (.slice (some ⟨g, 0, none⟩) i c) w := by
  have h0' : (0 : Int) ≤ (i : Int) := by omega
  have h2' : (i : Int) ≤ (c : Int) := by omega
  simp [Instr.slice, run_underlying slice26, Instr.sliceBounds, run_sliceBound, h0', h2', add_plain]
def loA (g c k : Nat) : Addr := if c = k then ⟨g, 0, none⟩ else ⟨g, k * 3, none⟩
theorem cut_lo (k : Nat) (x : Int) (hx : x = k) (h : k ≤ n) (w : World) : (Instr.slice 26 (.slice (some ⟨g, 0, none⟩) n c) (some (.int .i64 x)) none none).run Try.prog w = .ok (.slice (some (loA g c k)) (n - k) (c - k)) w := by
  subst hx
  have h0 : (0 : Int) ≤ (k : Int) := by omega
  have h1' : (k : Int) ≤ (n : Int) := by omega
  simp [Instr.slice, run_underlying slice26, Instr.sliceBounds, run_sliceBound, h0, h1', loA, add_plain]
  split <;> rfl
theorem cut_lohi (k j : Nat) (x y : Int) (hx : x = k) (hy : y = j) (h1 : k ≤ j) (h2 : j ≤ c) (w : World) : (Instr.slice 26 (.slice (some ⟨g, 0, none⟩) n c) (some (.int .i64 x)) (some (.int .i64 y)) none).run Try.prog w = .ok (.slice (some (loA g c k)) (j - k) (c - k)) w := by
  subst hx; subst hy
  have h0 : (0 : Int) ≤ (k : Int) := by omega
  have h0' : (0 : Int) ≤ (j : Int) := by omega
  have h1' : (k : Int) ≤ (j : Int) := by omega
  have h2' : (j : Int) ≤ (c : Int) := by omega
  simp [Instr.slice, run_underlying slice26, Instr.sliceBounds, run_sliceBound, h0, h0', h1', h2', loA, add_plain]
  split <;> rfl
theorem cut_full (k j m : Nat) (x y : Int) (hx : x = k) (hy : y = j) (h1 : k ≤ j) (h2 : j ≤ m) (h3 : m ≤ c) (w : World) : (Instr.slice 26 (.slice (some ⟨g, 0, none⟩) n c) (some (.int .i64 x)) (some (.int .i64 y)) (some (.int .i64 (m : Int)))).run Try.prog w = .ok (.slice (some (loA g m k)) (j - k) (m - k)) w := by
  subst hx; subst hy
  have h0 : (0 : Int) ≤ (k : Int) := by omega
  have h0' : (0 : Int) ≤ (j : Int) := by omega
  have h0'' : (0 : Int) ≤ (m : Int) := by omega
  have h1' : (k : Int) ≤ (j : Int) := by omega
  have h2' : (j : Int) ≤ (m : Int) := by omega
  have h3' : (m : Int) ≤ (c : Int) := by omega
  simp [Instr.slice, run_underlying slice26, Instr.sliceBounds, run_sliceBound, h0, h0', h0'', h1', h2', h3', loA, add_plain]
  split <;> rfl
end
theorem run_clear1 (w : World) (ty : TypeId) (g o c : Nat) (cur : Array Value) (hg : w.heap[g]? = some (.cells cur 47 (0, 0))) (hfit : o + 3 ≤ cur.size) :
    (Builtin.clear_ #[26] ty #[.slice (some ⟨g, o, none⟩) 1 c]).run Try.prog w = .ok (.tuple #[]) (w.setRow g (cur.toList.take o ++ itC it0 ++ cur.toList.drop (o + 3)).toArray) := by
  have hz : ∀ w, (zeroValue 47).run Try.prog w = .ok (itV it0) w := fun w => by kernel_rfl
  have hzc : (Builtin.zeroCells (itV it0).cells 1).toList = itC it0 := by kernel_rfl
  have hst := run_storeCells_at Try.prog g o 47 (itC it0) 0 cur w hg (by simpa [itC] using hfit) (by intro v hv; simp [itC] at hv; rcases hv with h | h | h <;> subst h <;> rfl)
  simp only [Nat.add_zero] at hst
  have e3 : o + (itC it0).length = o + 3 := rfl
  rw [e3] at hst
  simp [Builtin.clear_, run_underlying slice26, hz, hzc, hst]
/-- append in a region that draws its order, by what it was shown to do. -/
theorem step_ran {P : Program} {w w' : World} {ops : Array Oper} {o : Oper} {a : Act} {K : Act → World → Prop} {Q : Exit → Act → World → Prop} {E : Prop} (hgd : o.guard = none) (s x : Operand) (t : TypeId)
    (ho : o.op = .call { callee := .builtin .append, args := #[s, x], argTypes := #[t, t] }) (v1 v2 v : Value) (hs : a.eval s = v1) (hx : a.eval x = v2)
    (hrun : (Builtin.append_ #[t, t] o.type #[v1, v2]).run P w = .ok v w') (h : K (a.put o.dst v) w') : if Region.wanted o (yielded ops a.tmps) = true then Oper.wp P o a w K Q else E := by
  have hw : Region.wanted o (yielded ops a.tmps) = true := by simp [Region.wanted, hgd]
  rw [if_pos hw]
  unfold Oper.wp execOp
  simp only [ho, resolve, invoke, builtin, Sem.run_bind, Sem.run_pure, Result.andThen_ok, List.map_toArray, List.map_cons, List.map_nil, hs, hx, hrun]
  exact h
/-- The same row under another's cells. -/
theorem row_now {w : World} {g : Nat} {e : TypeId} {cs cur : Array Value} (h : w.heap[g]? = some (.cells cur e (0, 0))) : (w.setRow g cs).heap[g]? = some (.cells cs e (0, 0)) := setRow_heap w g _ _ e _ h
theorem row_grown (w : World) (g : Nat) (cs : Array Value) : w.grownBy (w.setRow g cs) (some g) := ⟨rfl, rfl, rfl, by simp [World.setRow], fun q _ hq => setRow_other w g q _ (fun e' => hq (by rw [e']))⟩
set_option maxHeartbeats 4000000 in
theorem delete_any (base g m c i : Nat) (L : List It) (w : World) (hn : m ≤ 1000) (hi : i ≤ m) (h : w.ownsRow base 47 3 (.slice (some ⟨g, 0, none⟩) (m + 1) c) (m + 1) (its L)) :
    Calls Try.prog 32 #[.slice (some ⟨g, 0, none⟩) (m + 1) c, .int .i64 (i : Int), .int .i64 ((i : Int) + 1)] w fun e w' =>
      e = .returned (.slice (some ⟨g, 0, none⟩) m c) ∧ w'.ownsRow base 47 3 (.slice (some ⟨g, 0, none⟩) m c) m (its (L.eraseIdx i)) ∧ w.grownBy w' (some g) := by
  have hL : L.length = m + 1 := by have := h.1; rw [its_length] at this; omega
  rcases h.2 with ⟨hv, _⟩ | ⟨g', c', cur, hv, hbg, hg, hnc, hcm, hcs, hct⟩
  · cases hv
  cases hv
  obtain ⟨C1, hC1⟩ : ∃ C1, (cur.toList.take (i * 3) ++ its (L.drop (i + 1)) ++ cur.toList.drop (i * 3 + (its (L.drop (i + 1))).length)).toArray = C1 := ⟨_, rfl⟩
  have hdl : (its (L.drop (i + 1))).length = (m - i) * 3 := by rw [its_length, List.length_drop, hL]; omega
  have hC1s : C1.size = c * 3 := by
    rw [← hC1]
    simp only [List.size_toArray, List.length_append, List.length_take, List.length_drop, hdl, Array.length_toList, hcs]
    omega
  have hC1t : C1.toList.take (m * 3) = its (L.eraseIdx i) := by
    rw [← hC1]
    have e1 : cur.toList.take (i * 3) = its (L.take i) := by
      rw [← its_take, ← hct, List.take_take]
      congr 1
      omega
    rw [e1]
    have e2 : (its (L.take i) ++ its (L.drop (i + 1))).length = m * 3 := by
      rw [List.length_append, its_length, hdl, List.length_take]; omega
    rw [List.take_append_of_le_length (by rw [e2]; omega), List.take_of_length_le (by omega), ← its_app, List.eraseIdx_eq_take_drop_succ]
  obtain ⟨i0, hi0, hz0, hz1, hz2⟩ := info_parts info47
  have ha : (Builtin.append_ #[26, 26] 26 #[.slice (some ⟨g, 0, none⟩) i c, .slice (some (loA g c (i + 1))) (m - i) (c - (i + 1))]).run Try.prog w.drew = .ok (.slice (some ⟨g, 0, none⟩) m c) (w.drew.setRow g C1) := by
    have := run_append_room (P := Try.prog) w.drew 26 26 47 i0 Try.underlying26 hi0 g i c cur hg (loA g c (i + 1)) (m - i) (c - (i + 1)) (its (L.drop (i + 1))) (by rw [hdl, hz1])
      (fun j u hu => by
        have hj : j < (m - i) * 3 := by rw [← hdl]; exact (List.getElem?_eq_some_iff.1 hu).1
        have e : loA g c (i + 1) = ⟨g, (i + 1) * 3, none⟩ := by unfold loA; rw [if_neg (by omega)]
        rw [e, add_plain]
        have h2 := (Rd.of_own h).at_ (by rw [its_length, hL]; omega)
        obtain ⟨b, o, hbo, _, hcell⟩ := h2
        cases hbo
        have := hcell ((i + 1) * 3 + j) u (by rw [← its_drop, List.getElem?_drop] at hu; exact hu)
        rw [Nat.zero_add] at this
        exact this)
      (its_one _) (by omega) (by rw [hz1, hdl, hcs]; omega)
    rw [hz1, hC1, show i + (m - i) = m by omega] at this
    exact this
  have hg1 : (w.drew.setRow g C1).heap[g]? = some (.cells C1 47 (0, 0)) := row_now hg
  obtain ⟨C2, hC2⟩ : ∃ C2, (C1.toList.take (m * 3) ++ itC it0 ++ C1.toList.drop (m * 3 + 3)).toArray = C2 := ⟨_, rfl⟩
  have hcl := fun ty => run_clear1 (w.drew.setRow g C1) ty g (m * 3) (c - m) C1 hg1 (by rw [hC1s]; omega)
  rw [hC2] at hcl
  have hC2s : C2.size = c * 3 := by
    rw [← hC2]
    simp only [List.size_toArray, List.length_append, List.length_take, List.length_drop, Array.length_toList, hC1s, itC, List.length_cons, List.length_nil]
    omega
  have hC2t : C2.toList.take (m * 3) = its (L.eraseIdx i) := by
    rw [← hC2, ← hC1t]
    have e2 : (C1.toList.take (m * 3)).length = m * 3 := by rw [List.length_take, Array.length_toList, hC1s]; omega
    rw [List.append_assoc, List.take_append_of_le_length (by rw [e2]; omega), List.take_of_length_le (by omega)]
  have fin := hide (show ((w.drew.setRow g C1).setRow g C2).ownsRow base 47 3 (.slice (some ⟨g, 0, none⟩) m c) m (its (L.eraseIdx i)) from
    ⟨by rw [its_length, List.length_eraseIdx, if_pos (by omega), hL]; omega, .inr ⟨g, c, C2, rfl, hbg, row_now hg1, by omega, hcm, hC2s, hC2t⟩⟩)
  have gro := hide (show w.grownBy ((w.drew.setRow g C1).setRow g C2) (some g) from by
    have t := (row_grown w.drew g C1).trans (row_grown (w.drew.setRow g C1) g C2)
    exact ⟨t.os, t.tape, t.output, t.size, t.block⟩)
  have s1 := cut_full g (m + 1) c i (i + 1) (m + 1) (i : Int) ((i : Int) + 1) rfl (by omega) (by omega) (by omega) hnc
  have s2 := cut_hi g (m + 1) c i (by omega)
  have s3 := cut_lo g (m + 1) c (i + 1) ((i : Int) + 1) (by omega) (by omega)
  have s4 := cut_lohi g m c m (m + 1) (m : Int) ((m : Int) + 1) rfl (by omega) (by omega) (by omega)
  have e4 : loA g c m = ⟨g, m * 3, none⟩ := by unfold loA; rw [if_neg (by omega)]
  rw [e4, show m + 1 - m = 1 by omega] at s4
  rw [show m + 1 - (i + 1) = m - i by omega] at s3
  have dn : ((i : Int) == (i : Int) + 1) = false := by rw [beq_eq_false_iff_ne]; omega
  clear hC1 hdl hC1s hC1t hC2 hC2s hC2t hg1 hct hcs hg h e4
  go_enter Try.func32, Try.ntmps32
  go_wp2_with fail
  go_region_law (refine step_ran rfl (.tmp 22) (.tmp 25) 26 rfl _ _ _ rfl rfl ha ?_)
  all_goals (
    go_wp2_with fail
    go_ret
    exact ⟨rfl, fin.out, gro.out⟩)
end Go.Proofs.Ytiaahlkhpghnnaa
