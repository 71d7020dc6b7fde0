/- append onto a row of the call's own, of other sources than slices: a string's bytes; zeros (append-of-make). No function of the program is named. -/
import Derived.Test.YtcmlegpfapomnaaBase
import Derived.Deep.AppendSrc
import Derived.Lib.AppendZerosOnto
namespace Go.Proofs.Ytcmlegpfapomnaa
open Go.RowKit

section
variable {P : Program} {w : World}
/-- The row behind a store within its capacity. -/
theorem own_room {base : Nat} {e : TypeId} {size g n m cap : Nat} {cur : Array Value} {xs news : List Value} (hx : xs.length = n * size) (hb : base ≤ g) (hg : w.heap[g]? = some (.cells cur e (0, 0))) (hcm : cap ≤ maxLen)
    (hcs : cur.size = cap * size) (ht : cur.toList.take (n * size) = xs) (hn : news.length = m * size) (hr : n + m ≤ cap) :
    (w.setRow g (cur.toList.take (n * size) ++ news ++ cur.toList.drop (n * size + news.length)).toArray).ownsRow base e size (.slice (some ⟨g, 0, none⟩) (n + m) cap) (n + m) (xs ++ news) ∧
      w.grownBy (w.setRow g (cur.toList.take (n * size) ++ news ++ cur.toList.drop (n * size + news.length)).toArray) (some g) := by
  have hlen : (xs ++ news).length = (n + m) * size := by rw [List.length_append, hx, hn, Nat.add_mul]
  have hfit : n * size + news.length ≤ cur.size := by rw [hn, hcs, ← Nat.add_mul]; exact Nat.mul_le_mul_right _ hr
  refine ⟨⟨hlen, .inr ⟨g, cap, _, rfl, hb, setRow_heap w g cur _ e _ hg, hr, hcm, ?_, ?_⟩⟩, ⟨rfl, rfl, rfl, by simp [World.setRow], fun k _ hk => setRow_other w g k _ (fun e' => hk (by rw [e']))⟩⟩
  · simp only [List.size_toArray, List.length_append, List.length_take, List.length_drop, Array.length_toList]
    omega
  · rw [ht, ← hlen]
    exact List.take_left
/-- The row behind growth. -/
theorem own_grow {base : Nat} {e : TypeId} {size n m old : Nat} {xs news : List Value} {z : Array Value} (hx : xs.length = n * size) (hb : base ≤ w.heap.size) (hz : z.size = size) (hn : news.length = m * size) (h63 : n + m ≤ maxLen) (row : Option Nat) :
    (w.drew.alloc (.cells ((xs ++ news).toArray ++ Builtin.zeroCells z (grownCap w (n + m) old e - (n + m))) e)).ownsRow base e size (.slice (some ⟨w.heap.size, 0, none⟩) (n + m) (grownCap w (n + m) old e)) (n + m) (xs ++ news) ∧
      w.grownBy (w.drew.alloc (.cells ((xs ++ news).toArray ++ Builtin.zeroCells z (grownCap w (n + m) old e - (n + m))) e)) row := by
  have hlen : (xs ++ news).length = (n + m) * size := by rw [List.length_append, hx, hn, Nat.add_mul]
  have hge := grownCap_ge w (n + m) old e
  have hcm : grownCap w (n + m) old e ≤ maxLen := grownCap_le_maxLen w (n + m) old e h63
  refine ⟨⟨hlen, .inr ⟨w.heap.size, _, _, rfl, hb, heap_alloc_new w.drew _, hge, hcm, ?_, ?_⟩⟩, ⟨rfl, rfl, rfl, by simp, fun k hk _ => Below.heap_alloc w.drew _ k hk⟩⟩
  · rw [Array.size_append, List.size_toArray, hlen, size_zeroCells, hz, ← Nat.add_mul]
    congr 1
    omega
  · rw [Array.toList_append, ← hlen]
    exact List.take_left

/-- append(s, x...) for whatever x yields. -/
theorem run_app_src (base : Nat) (t tx ty e : TypeId) (z : Value) (size bytes : Nat) (ht : P.underlying t = some (.slice e)) (hi : (P.info? e).map (fun i => (i.zero, i.size, i.bytes)) = some (some z, size, bytes))
    (hzs : z.cells.size = size) (A0 : Option Addr) (c0 n : Nat) (xs : List Value) (hown : w.ownsRow base e size (.slice A0 n c0) n xs)
    (x : Value) (m : Nat) (news : List Value) (hs : Src P size tx x m news w) (h63 : n + m ≤ maxLen) (hbytes : (n + m) * bytes ≤ 140737488355328) (hbase : base ≤ w.heap.size) :
    ∃ A' c' w', (Builtin.append_ #[t, tx] ty #[.slice A0 n c0, x]).run P w = .ok (.slice A' (n + m) c') w' ∧ w'.ownsRow base e size (.slice A' (n + m) c') (n + m) (xs ++ news) ∧
      w.grownBy w' (Value.slice A0 n c0).ownBlock ∧ ((Value.slice A' (n + m) c').ownBlock = (Value.slice A0 n c0).ownBlock ∨ (Value.slice A' (n + m) c').ownBlock = some w.heap.size) := by
  obtain ⟨i, hi0, hz0, rfl, rfl⟩ := info_parts hi
  rcases hown.2 with ⟨hv, rfl⟩ | ⟨g, cap, cur, hv, hbg, hg, hnc, hcm, hcs, htake⟩
  · injection hv with e1 e2 e3
    subst e1; subst e3
    have hx : xs = [] := List.eq_nil_of_length_eq_zero (by simpa using hown.1)
    subst hx
    by_cases hm : m = 0
    · subst hm
      have hn : news = [] := List.eq_nil_of_length_eq_zero (by simpa using hs.newsLen)
      subst hn
      refine ⟨none, 0, w, ?_, World.ownsRow_nil w base e i.size, World.grownBy.refl w _, .inl rfl⟩
      rcases hs.kind with ⟨e', hk⟩ | hk <;> simp [Builtin.append_, run_underlying ht, run_underlying hk, sizeOf, typeInfo, hi0, hs.len, hs.cells]
    · have hr := run_append_grow_src (P := P) w t tx ty e i z ht hi0 hz0 none 0 0 [] (by simp [Builtin.firstCells]) x m news hs (by omega) (by simp only [maxLen] at h63; omega) (growslice_fits (by omega) hbytes)
      have hgr := own_grow (w := w) (base := base) (e := e) (n := 0) (m := m) (old := 0) (xs := []) (news := news) (z := z.cells) (by simp) hbase hzs hs.newsLen h63 (Value.ownBlock (.slice none 0 0))
      exact ⟨_, _, _, hr, hgr.1, hgr.2, .inr rfl⟩
  · injection hv with e1 e2 e3
    subst e1; subst e3
    by_cases hroom : n + m ≤ c0
    · have hfit : n * i.size + news.length ≤ cur.size := by rw [hs.newsLen, hcs, ← Nat.add_mul]; exact Nat.mul_le_mul_right _ hroom
      have hst := run_storeCells_at P g (n * i.size) e news 0 cur w hg (by simpa using hfit) hs.one
      simp only [Nat.add_zero] at hst
      have hgr := own_room (w := w) hown.1 hbg hg hcm hcs htake hs.newsLen hroom
      refine ⟨_, _, _, ?_, hgr.1, hgr.2, .inl rfl⟩
      rcases hs.kind with ⟨e', hk⟩ | hk <;> simp [Builtin.append_, run_underlying ht, run_underlying hk, sizeOf, typeInfo, hi0, hs.len, hroom, hs.cells, Addr.add_lit, hst]
    · have holds : ∀ j u, xs[j]? = some u → w.cell? ((⟨g, 0, none⟩ : Addr).add j) = some u := hown.cells (g := g) rfl
      have hold := run_firstCells_some (P := P) w.drew i.size n ⟨g, 0, none⟩ n c0 xs hown.1 (by simpa using holds)
      have hr := run_append_grow_src (P := P) w t tx ty e i z ht hi0 hz0 (some ⟨g, 0, none⟩) n c0 xs hold x m news hs (by omega) (by simp only [maxLen] at h63; omega) (growslice_fits (by omega) hbytes)
      have hgr := own_grow (w := w) (base := base) (e := e) (n := n) (m := m) (old := c0) (xs := xs) (news := news) (z := z.cells) hown.1 hbase hzs hs.newsLen h63 (some g)
      exact ⟨_, _, _, hr, hgr.1, hgr.2, .inr rfl⟩

theorem zeroCells_one (z : Value) (k : Nat) : Builtin.zeroCells #[z] k = (List.replicate k z).toArray := by
  apply Array.ext
  · simp [Builtin.zeroCells]
  · intro j h1 h2
    simp [Builtin.zeroCells, Nat.mod_one]
/-- append(s, make([]T, k)...), T of one cell. -/
theorem run_app_zeros (base : Nat) (t tx ty e : TypeId) (kn : IntKind) (z : Value) (bytes : Nat) (ht : P.underlying t = some (.slice e)) (htx : P.underlying tx = some (.int kn)) (hi : (P.info? e).map (fun i => (i.zero, i.size, i.bytes)) = some (some z, 1, bytes))
    (hzs : z.cells = #[z]) (hz1 : z.oneCell' = true) (A0 : Option Addr) (c0 n : Nat) (xs : List Value) (hown : w.ownsRow base e 1 (.slice A0 n c0) n xs)
    (m : Nat) (h63 : n + m ≤ maxLen) (hbytes : (n + m) * bytes ≤ 140737488355328) (hbase : base ≤ w.heap.size) :
    ∃ A' c' w', (Builtin.append_ #[t, tx] ty #[.slice A0 n c0, .int .i64 (m : Int)]).run P w = .ok (.slice A' (n + m) c') w' ∧ w'.ownsRow base e 1 (.slice A' (n + m) c') (n + m) (xs ++ List.replicate m z) ∧
      w.grownBy w' (Value.slice A0 n c0).ownBlock ∧ ((Value.slice A' (n + m) c').ownBlock = (Value.slice A0 n c0).ownBlock ∨ (Value.slice A' (n + m) c').ownBlock = some w.heap.size) := by
  obtain ⟨i, hi0, hz0, hsz, rfl⟩ := info_parts hi
  have hm63 : n + m ≤ 9223372036854775807 := by simp only [maxLen] at h63; omega
  have hw : IntKind.i64.wrap (m : Int) = m := by rw [IntKind.wrap_i64]; omega
  have hneg : ¬ ((m : Int) < 0) := by omega
  have hmb : m * i.bytes ≤ 140737488355328 := Nat.le_trans (Nat.mul_le_mul_right _ (by omega)) hbytes
  have h48i : ¬ (281474976710656 < (m : Int) * (i.bytes : Int)) := by rw [← Int.natCast_mul]; omega
  have hnl : (List.replicate m z).length = m * 1 := by simp
  by_cases hm : m = 0
  · subst hm
    refine ⟨A0, c0, w, ?_, by simpa using hown, World.grownBy.refl w _, .inl rfl⟩
    have hnc : n ≤ c0 := by
      rcases hown.2 with ⟨hv, h0⟩ | ⟨g, cap, cur, hv, _, _, hnc, _⟩
      · omega
      · injection hv with _ _ e3; omega
    cases A0 <;> simp [Builtin.append_, run_underlying ht, run_underlying htx, sizeOf, typeInfo, hi0, asInt, asIntOf, hnc, storeCells, show IntKind.i64.wrap 0 = 0 by decide]
  · rcases hown.2 with ⟨hv, rfl⟩ | ⟨g, cap, cur, hv, hbg, hg, hnc, hcm, hcs, htake⟩
    · injection hv with e1 e2 e3
      subst e1; subst e3
      have hx : xs = [] := List.eq_nil_of_length_eq_zero (by simpa using hown.1)
      subst hx
      have hr := Lib.run_append_grow_zeros (P := P) w t tx ty e i z .i64 kn ht htx hi0 hz0 none 0 0 [] (by simp [Builtin.firstCells]) m (by omega) (by omega) (by omega) (by omega) (by omega) (growslice_fits (by omega) hbytes)
      have hgr := own_grow (w := w) (base := base) (e := e) (size := 1) (n := 0) (m := m) (old := 0) (xs := []) (news := List.replicate m z) (z := z.cells) (by simp) hbase (by rw [hzs]; rfl) hnl h63 (Value.ownBlock (.slice none 0 0))
      rw [show ([] : List Value).toArray ++ Builtin.zeroCells z.cells m = ([] ++ List.replicate m z).toArray by rw [hzs, zeroCells_one]; simp] at hr
      exact ⟨_, _, _, hr, hgr.1, hgr.2, .inr rfl⟩
    · injection hv with e1 e2 e3
      subst e1; subst e3
      by_cases hroom : n + m ≤ c0
      · have hfit : n * 1 + (List.replicate m z).length ≤ cur.size := by rw [hnl, hcs, ← Nat.add_mul]; exact Nat.mul_le_mul_right _ hroom
        have hst := run_storeCells_at P g (n * 1) e (List.replicate m z) 0 cur w hg (by simpa using hfit) (fun u hu => by rw [List.eq_of_mem_replicate hu]; exact hz1)
        simp only [Nat.add_zero, Nat.mul_one] at hst
        have hgr := own_room (w := w) hown.1 hbg hg hcm hcs htake hnl hroom
        refine ⟨_, _, _, ?_, hgr.1, hgr.2, .inl rfl⟩
        simp [Builtin.append_, run_underlying ht, run_underlying htx, sizeOf, typeInfo, zeroValue, hi0, hz0, hsz, asInt, asIntOf, hw, hneg, h48i, hm, hroom, Addr.add_lit, hst, hzs, zeroCells_one]
      · have holds : ∀ j u, xs[j]? = some u → w.cell? ((⟨g, 0, none⟩ : Addr).add j) = some u := hown.cells (g := g) rfl
        have hold := run_firstCells_some (P := P) w.drew i.size n ⟨g, 0, none⟩ n c0 xs (by rw [hsz]; exact hown.1) (by simpa using holds)
        have hr := Lib.run_append_grow_zeros (P := P) w t tx ty e i z .i64 kn ht htx hi0 hz0 (some ⟨g, 0, none⟩) n c0 xs hold m (by omega) (by omega) (by omega) (by omega) (by omega) (growslice_fits (by omega) hbytes)
        have hgr := own_grow (w := w) (base := base) (e := e) (size := 1) (n := n) (m := m) (old := c0) (xs := xs) (news := List.replicate m z) (z := z.cells) hown.1 hbase (by rw [hzs]; rfl) hnl h63 (some g)
        rw [show xs.toArray ++ Builtin.zeroCells z.cells m = (xs ++ List.replicate m z).toArray by rw [hzs, zeroCells_one]; simp] at hr
        exact ⟨_, _, _, hr, hgr.1, hgr.2, .inr rfl⟩
end

/-- append(s, str...): a string's bytes. -/
theorem wpList_app_str {P : Program} {w : World} {ops : Array Oper} {rest : List Oper} {o : Oper} {a : Act} {Q : Exit → Act → World → Prop} (hgd : o.guard = none) (s x : Operand) (t tx : TypeId)
    (ho : o.op = .call { callee := .builtin .append, args := #[s, x], argTypes := #[t, tx] })
    (base : Nat) (e : TypeId) (z : Value) (bytes : Nat) (ht : P.underlying t = some (.slice e)) (htx : P.underlying tx = some .string) (hi : (P.info? e).map (fun i => (i.zero, i.size, i.bytes)) = some (some z, 1, bytes))
    (hzs : z.cells.size = 1) (A0 : Option Addr) (c0 n : Nat) (xs : List Value) (hs : a.eval s = .slice A0 n c0) (hown : w.ownsRow base e 1 (.slice A0 n c0) n xs)
    (str : ByteArray) (hx : a.eval x = .string str) (h63 : n + str.size ≤ maxLen) (hbytes : (n + str.size) * bytes ≤ 140737488355328) (hbase : base ≤ w.heap.size)
    (h : ∀ A' c' w', w'.ownsRow base e 1 (.slice A' (n + str.size) c') (n + str.size) (xs ++ by8 str.data.toList) → w.grownBy w' (Value.slice A0 n c0).ownBlock →
      ((Value.slice A' (n + str.size) c').ownBlock = (Value.slice A0 n c0).ownBlock ∨ (Value.slice A' (n + str.size) c').ownBlock = some w.heap.size) →
      wpList P ops Q rest (a.put o.dst (.slice A' (n + str.size) c')) w') : wpList P ops Q (o :: rest) a w := by
  refine wpList_plain hgd fun K hK => ?_
  obtain ⟨A', c', w', hrun, h2, h3, h4⟩ := run_app_src (P := P) (w := w) base t tx o.type e z 1 bytes ht hi hzs A0 c0 n xs hown (.string str) str.size (byteCells str) (Src.ofString w htx str) h63 hbytes hbase
  unfold Oper.wp execOp
  simp only [ho, resolve, invoke, builtin, Sem.run_bind, Sem.run_pure, Result.andThen_ok, List.map_toArray, List.map_cons, List.map_nil, hs, hx, hrun]
  exact hK _ _ (h A' c' w' h2 h3 h4)
/-- append(s, make([]byte, k)...). -/
theorem wpList_app_zeros {P : Program} {w : World} {ops : Array Oper} {rest : List Oper} {o : Oper} {a : Act} {Q : Exit → Act → World → Prop} (hgd : o.guard = none) (s x : Operand) (t tx : TypeId)
    (ho : o.op = .call { callee := .builtin .append, args := #[s, x], argTypes := #[t, tx] })
    (base : Nat) (e : TypeId) (kn : IntKind) (z : Value) (bytes : Nat) (ht : P.underlying t = some (.slice e)) (htx : P.underlying tx = some (.int kn)) (hi : (P.info? e).map (fun i => (i.zero, i.size, i.bytes)) = some (some z, 1, bytes))
    (hzs : z.cells = #[z]) (hz1 : z.oneCell' = true) (A0 : Option Addr) (c0 n : Nat) (xs : List Value) (hs : a.eval s = .slice A0 n c0) (hown : w.ownsRow base e 1 (.slice A0 n c0) n xs)
    (y : Int) (m : Nat) (hx : a.eval x = .int .i64 y) (hy : y = m) (h63 : n + m ≤ maxLen) (hbytes : (n + m) * bytes ≤ 140737488355328) (hbase : base ≤ w.heap.size)
    (h : ∀ A' c' w', w'.ownsRow base e 1 (.slice A' (n + m) c') (n + m) (xs ++ List.replicate m z) → w.grownBy w' (Value.slice A0 n c0).ownBlock →
      ((Value.slice A' (n + m) c').ownBlock = (Value.slice A0 n c0).ownBlock ∨ (Value.slice A' (n + m) c').ownBlock = some w.heap.size) →
      wpList P ops Q rest (a.put o.dst (.slice A' (n + m) c')) w') : wpList P ops Q (o :: rest) a w := by
  refine wpList_plain hgd fun K hK => ?_
  subst hy
  obtain ⟨A', c', w', hrun, h2, h3, h4⟩ := run_app_zeros (P := P) (w := w) base t tx o.type e kn z bytes ht htx hi hzs hz1 A0 c0 n xs hown m h63 hbytes hbase
  unfold Oper.wp execOp
  simp only [ho, resolve, invoke, builtin, Sem.run_bind, Sem.run_pure, Result.andThen_ok, List.map_toArray, List.map_cons, List.map_nil, hs, hx, hrun]
  exact hK _ _ (h A' c' w' h2 h3 h4)

end Go.Proofs.Ytcmlegpfapomnaa
