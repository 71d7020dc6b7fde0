/- append onto a row of the call's own, behind which the elder slice still reads. No function of the program is named. -/
import Derived.Test.YtmdhckcoinhfpaaStep
namespace Go.Proofs.Ytmdhckcoinhfpaa
open Go.RowKit

theorem old_room {w : World} {base : Nat} {e : TypeId} {size g n m cap : Nat} {cur : Array Value} {xs news : List Value} (hx : xs.length = n * size) (hb : base ≤ g) (hg : w.heap[g]? = some (.cells cur e (0, 0))) (hcm : cap ≤ maxLen)
    (hcs : cur.size = cap * size) (ht : cur.toList.take (n * size) = xs) (hn : news.length = m * size) (hr : n + m ≤ cap) :
    (w.setRow g (cur.toList.take (n * size) ++ news ++ cur.toList.drop (n * size + news.length)).toArray).ownsRow base e size (.slice (some ⟨g, 0, none⟩) n cap) n xs := by
  have hfit : n * size + news.length ≤ cur.size := by rw [hn, hcs, ← Nat.add_mul]; exact Nat.mul_le_mul_right _ hr
  refine ⟨hx, .inr ⟨g, cap, _, rfl, hb, setRow_heap w g cur _ e _ hg, by omega, hcm, ?_, ?_⟩⟩
  · simp only [List.size_toArray, List.length_append, List.length_take, List.length_drop, Array.length_toList]
    omega
  · rw [ht]
    show (xs ++ news ++ _).take (n * size) = xs
    rw [List.append_assoc, ← hx]
    exact List.take_left
theorem wpList_app_keep {P : Program} {w : World} {ops : Array Oper} {rest : List Oper} {o : Oper} {a : Act} {Q : Exit → Act → World → Prop} (hgd : o.guard = none) (s x : Operand) (t : TypeId)
    (ho : o.op = .call { callee := .builtin .append, args := #[s, x], argTypes := #[t, t] })
    (base : Nat) (e : TypeId) (z : Value) (size bytes : Nat) (ht : P.underlying t = some (.slice e)) (hi : (P.info? e).map (fun i => (i.zero, i.size, i.bytes)) = some (some z, size, bytes))
    (hzs : z.cells.size = size)
    (g0 c0 n : Nat) (xs : List Value) (hs : a.eval s = .slice (some ⟨g0, 0, none⟩) n c0) (hown : w.ownsRow base e size (.slice (some ⟨g0, 0, none⟩) n c0) n xs)
    (b : Nat) (o' : Nat) (m c : Nat) (news : List Value) (hx : a.eval x = .slice (some ⟨b, o', none⟩) m c) (hl : news.length = m * size) (hc : ∀ j u, news[j]? = some u → w.cell? ⟨b, o' + j, none⟩ = some u) (h1 : ∀ u ∈ news, u.oneCell' = true) 
    (h63 : n + m ≤ maxLen) (hbytes : (n + m) * bytes ≤ 140737488355328) (hbase : base ≤ w.heap.size)
    (h : ∀ A' c' w', w'.ownsRow base e size (.slice A' (n + m) c') (n + m) (xs ++ news) → w'.ownsRow base e size (.slice (some ⟨g0, 0, none⟩) n c0) n xs → w.grownBy w' (some g0) →
      wpList P ops Q rest (a.put o.dst (.slice A' (n + m) c')) w') : wpList P ops Q (o :: rest) a w := by
  obtain ⟨i, hi0, hz0, rfl, rfl⟩ := info_parts hi
  refine wpList_plain hgd fun K hK => ?_
  have hsrc := Src.ofSlice w ht ⟨b, o', none⟩ m c news hl (fun j u hu => by rw [add_plain]; exact hc j u hu) h1
  have main : ∃ A' c' w', (Builtin.append_ #[t, t] o.type #[.slice (some ⟨g0, 0, none⟩) n c0, .slice (some ⟨b, o', none⟩) m c]).run P w = .ok (.slice A' (n + m) c') w' ∧ w'.ownsRow base e i.size (.slice A' (n + m) c') (n + m) (xs ++ news) ∧
      w'.ownsRow base e i.size (.slice (some ⟨g0, 0, none⟩) n c0) n xs ∧ w.grownBy w' (some g0) := by
    rcases hown.2 with ⟨hv, rfl⟩ | ⟨g, cap, cur, hv, hbg, hg, hnc, hcm, hcs, htake⟩
    · cases hv
    · injection hv with e1 e2 e3
      injection e1 with e1
      injection e1 with e1
      subst e1; subst e3
      by_cases hroom : n + m ≤ c0
      · have hfit : n * i.size + news.length ≤ cur.size := by rw [hl, hcs, ← Nat.add_mul]; exact Nat.mul_le_mul_right _ hroom
        have hst := run_storeCells_at P g0 (n * i.size) e news 0 cur w hg (by simpa using hfit) h1
        simp only [Nat.add_zero] at hst
        have hgr := own_room (w := w) hown.1 hbg hg hcm hcs htake hl hroom
        refine ⟨_, _, _, ?_, hgr.1, old_room hown.1 hbg hg hcm hcs htake hl hroom, hgr.2⟩
        simp [Builtin.append_, run_underlying ht, sizeOf, typeInfo, hi0, hsrc.len, hroom, hsrc.cells, Addr.add_lit, hst]
      · have holds : ∀ j u, xs[j]? = some u → w.cell? ((⟨g0, 0, none⟩ : Addr).add j) = some u := hown.cells (g := g0) rfl
        have hold := run_firstCells_some (P := P) w.drew i.size n ⟨g0, 0, none⟩ n c0 xs hown.1 (by simpa using holds)
        have hr := run_append_grow_src (P := P) w t t o.type e i z ht hi0 hz0 (some ⟨g0, 0, none⟩) n c0 xs hold _ m news hsrc (by omega) (by simp only [maxLen] at h63; omega) (growslice_fits (by omega) hbytes)
        have hgr := own_grow (w := w) (base := base) (e := e) (n := n) (m := m) (old := c0) (xs := xs) (news := news) (z := z.cells) hown.1 hbase hzs hl h63 (some g0)
        exact ⟨_, _, _, hr, hgr.1, (hown.drew).alloc _, hgr.2⟩
  obtain ⟨A', c', w', hrun, h2, h3, h4⟩ := main
  unfold Oper.wp execOp
  simp only [ho, resolve, invoke, builtin, Sem.run_bind, Sem.run_pure, Result.andThen_ok, List.map_toArray, List.map_cons, List.map_nil, hs, hx, hrun]
  exact hK _ _ (h A' c' w' h2 h3 h4)
end Go.Proofs.Ytmdhckcoinhfpaa
