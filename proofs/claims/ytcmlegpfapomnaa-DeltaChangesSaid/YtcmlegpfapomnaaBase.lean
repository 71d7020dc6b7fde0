/- Words for memory that all walks of this seat use: a slice that reads as a list, rows of the call's own, conversions. No function of the program is named. -/
import Derived.WalkKit
import Derived.WalkSpells
import Derived.WalkLawsBesides
import Derived.Laws.CopyOwn
import Derived.Deep.AppendLies
import Derived.Deep.Draws
namespace Go.Proofs.Ytcmlegpfapomnaa
open Go.RowKit

theorem hide {p : Prop} (h : p) : Hid p := h

/-- A slice of n elements of 'size' cells at A holds the cells xs. -/
def Rd (w : World) (A : Option Addr) (n size : Nat) (xs : List Value) : Prop :=
  xs.length = n * size ∧ (0 < xs.length → ∃ b o, A = some ⟨b, o, none⟩ ∧ ∀ j u, xs[j]? = some u → w.cell? ⟨b, o + j, none⟩ = some u)

theorem add_plain (b o i : Nat) : (⟨b, o, none⟩ : Addr).add i = ⟨b, o + i, none⟩ := by unfold Addr.add; split <;> simp_all

section
variable {w w' : World} {A : Option Addr} {n size : Nat} {xs : List Value}
theorem Rd.none_ (w : World) (A : Option Addr) (size : Nat) : Rd w A 0 size [] := ⟨by simp, fun h => absurd h (by simp)⟩
theorem Rd.at_ (h : Rd w A n size xs) (hp : 0 < xs.length) : ∃ b o, A = some ⟨b, o, none⟩ ∧ b < w.heap.size ∧ ∀ j u, xs[j]? = some u → w.cell? ⟨b, o + j, none⟩ = some u := by
  obtain ⟨b, o, e, hc⟩ := h.2 hp
  have h0 := hc 0 xs[0] (List.getElem?_eq_getElem hp)
  exact ⟨b, o, e, World.block_lt_of_cell? w _ h0, hc⟩
theorem Rd.keep (h : Rd w A n size xs) (hk : ∀ p : Addr, p.block < w.heap.size → w'.cell? p = w.cell? p) : Rd w' A n size xs :=
  ⟨h.1, fun hp => by
    obtain ⟨b, o, e, hb, hc⟩ := h.at_ hp
    exact ⟨b, o, e, fun j u hu => (hk ⟨b, o + j, none⟩ hb).trans (hc j u hu)⟩⟩
theorem Rd.below (h : Rd w A n size xs) (hb : Below w.heap.size w w') : Rd w' A n size xs := h.keep fun _ hp => hb.cell hp
theorem Rd.drew (h : Rd w A n size xs) : Rd w.drew A n size xs := h
theorem Rd.drewN (h : Rd w A n size xs) (k : Nat) : Rd (w.drewN k) A n size xs := h
theorem Rd.alloc (h : Rd w A n size xs) (o : Obj) : Rd (w.alloc o) A n size xs := h.keep fun p hp => World.cell?_alloc_lt w o p hp
/-- A write to another block than any of the slice's. -/
theorem Rd.grown (h : Rd w A n size xs) {row : Option Nat} (hg : w.grownBy w' row) (hne : ∀ a, A = some a → 0 < xs.length → row ≠ some a.block) : Rd w' A n size xs :=
  ⟨h.1, fun hp => by
    obtain ⟨b, o, e, hb, hc⟩ := h.at_ hp
    refine ⟨b, o, e, fun j u hu => ?_⟩
    exact (World.cell?_of_block (a := ⟨b, o + j, none⟩) (hg.block b hb (fun e' => hne _ e hp e'.symm))).trans (hc j u hu)⟩
theorem Rd.setCell (h : Rd w A n size xs) {p : Addr} (hne : ∀ a, A = some a → 0 < xs.length → p.block ≠ a.block) (u : Value) : Rd (w.setCell p u) A n size xs :=
  ⟨h.1, fun hp => by
    obtain ⟨b, o, e, hb, hc⟩ := h.at_ hp
    refine ⟨b, o, e, fun j v hv => ?_⟩
    rw [World.cell?_setCell_other w p _ u (fun e' => hne _ e hp (by rw [e']))]
    exact hc j v hv⟩
theorem Rd.block_lt (h : Rd w A n size xs) (hp : 0 < xs.length) : ∃ b o, A = some ⟨b, o, none⟩ ∧ b < w.heap.size := by
  obtain ⟨b, o, e, hb, _⟩ := h.at_ hp
  exact ⟨b, o, e, hb⟩
/-- s[lo:hi]. -/
theorem Rd.cut (h : Rd w A n size xs) (lo hi cap : Nat) (h1 : lo ≤ hi) (h2 : hi ≤ n) (h3 : n ≤ cap) :
    Rd w (if cap = lo then A else A.map (·.add (lo * size))) (hi - lo) size ((xs.drop (lo * size)).take ((hi - lo) * size)) := by
  have hle : lo * size ≤ hi * size := Nat.mul_le_mul_right _ h1
  have hle2 : hi * size ≤ n * size := Nat.mul_le_mul_right _ h2
  have hlen : ((xs.drop (lo * size)).take ((hi - lo) * size)).length = (hi - lo) * size := by
    rw [List.length_take, List.length_drop, h.1, Nat.sub_mul]; omega
  refine ⟨hlen, fun hp => ?_⟩
  rw [hlen] at hp
  have hlt : lo < hi := by
    rcases Nat.lt_or_ge lo hi with h' | h'
    · exact h'
    · rw [Nat.sub_eq_zero_of_le h', Nat.zero_mul] at hp; omega
  obtain ⟨b, o, rfl, hc⟩ := h.2 (by rw [h.1]; rw [Nat.sub_mul] at hp; omega)
  rw [if_neg (by omega)]
  refine ⟨b, o + lo * size, by simp [add_plain], fun j u hu => ?_⟩
  rw [List.getElem?_take] at hu
  split at hu
  · rw [List.getElem?_drop] at hu
    rw [Nat.add_assoc]
    exact hc _ u hu
  · cases hu
theorem Rd.from_ (h : Rd w A n size xs) (lo cap : Nat) (h1 : lo ≤ n) (h3 : n ≤ cap) :
    Rd w (if cap = lo then A else A.map (·.add (lo * size))) (n - lo) size (xs.drop (lo * size)) := by
  have := h.cut lo n cap h1 (Nat.le_refl _) h3
  rwa [List.take_of_length_le (by rw [List.length_drop, h.1, Nat.sub_mul]; omega)] at this
theorem Rd.upto (h : Rd w A n size xs) (hi cap : Nat) (h2 : hi ≤ n) (h3 : n ≤ cap) :
    Rd w (if cap = 0 then A else A.map (·.add (0 * size))) (hi - 0) size (xs.take (hi * size)) := by
  have := h.cut 0 hi cap (Nat.zero_le _) h2 h3
  simpa using this
theorem Rd.of_own {base : Nat} {e : TypeId} {c : Nat} (h : w.ownsRow base e size (.slice A n c) n xs) : Rd w A n size xs := by
  refine ⟨h.1, fun hp => ?_⟩
  have hn : 0 < n := by
    rcases Nat.eq_zero_or_pos n with h0 | h0
    · rw [h.1, h0, Nat.zero_mul] at hp; omega
    · exact h0
  obtain ⟨g, cap, hv, _, hlt⟩ := h.form hn
  have hA : A = some ⟨g, 0, none⟩ := by injection hv
  subst hA
  exact ⟨_, _, rfl, fun j u hu => by rw [← add_plain]; exact h.cells (g := g) rfl j u hu⟩
end

/-- Bytes as cells. -/
def by8 (l : List UInt8) : List Value := l.map fun c => .int .u8 (c.toNat : Int)
theorem by8_length (l : List UInt8) : (by8 l).length = l.length := by simp [by8]
theorem by8_append (a b : List UInt8) : by8 (a ++ b) = by8 a ++ by8 b := by simp [by8]
theorem by8_drop (l : List UInt8) (k : Nat) : (by8 l).drop k = by8 (l.drop k) := by simp [by8]
theorem by8_take (l : List UInt8) (k : Nat) : (by8 l).take k = by8 (l.take k) := by simp [by8]
theorem by8_one (l : List UInt8) : ∀ u ∈ by8 l, u.oneCell' = true := by
  intro u hu
  obtain ⟨_, _, rfl⟩ := List.mem_map.1 hu
  rfl
theorem by8_get (l : List UInt8) (k : Nat) (h : k < l.length) : (by8 l)[k]? = some (.int .u8 ((l.getD k 0).toNat : Int)) := by
  simp [by8, List.getD, h]

/-- A slice of bytes. -/
def Rb (w : World) (A : Option Addr) (n : Nat) (l : List UInt8) : Prop := Rd w A n 1 (by8 l)
section
variable {w w' : World} {A : Option Addr} {n : Nat} {l : List UInt8}
theorem Rb.len (h : Rb w A n l) : l.length = n := by have := h.1; rw [by8_length, Nat.mul_one] at this; exact this
theorem Rb.at_ (h : Rb w A n l) (hp : 0 < n) : ∃ b o, A = some ⟨b, o, none⟩ ∧ b < w.heap.size ∧ ∀ k, k < n → w.cell? ⟨b, o + k, none⟩ = some (.int .u8 ((l.getD k 0).toNat : Int)) := by
  have hl := h.len
  obtain ⟨b, o, e, hb, hc⟩ := Rd.at_ h (by rw [by8_length]; omega)
  exact ⟨b, o, e, hb, fun k hk => hc k _ (by8_get l k (by omega))⟩
theorem Rb.below (h : Rb w A n l) (hb : Below w.heap.size w w') : Rb w' A n l := Rd.below h hb
theorem Rb.drew (h : Rb w A n l) : Rb w.drew A n l := h
theorem Rb.drewN (h : Rb w A n l) (k : Nat) : Rb (w.drewN k) A n l := h
theorem Rb.alloc (h : Rb w A n l) (o : Obj) : Rb (w.alloc o) A n l := Rd.alloc h o
theorem Rb.none_ (w : World) (A : Option Addr) : Rb w A 0 [] := Rd.none_ w A 1
theorem Rb.cut (h : Rb w A n l) (lo hi cap : Nat) (h1 : lo ≤ hi) (h2 : hi ≤ n) (h3 : n ≤ cap) :
    Rb w (if cap = lo then A else A.map (·.add lo)) (hi - lo) ((l.drop lo).take (hi - lo)) := by
  have := Rd.cut h lo hi cap h1 h2 h3
  simp only [Nat.mul_one, by8_drop, by8_take] at this
  exact this
theorem Rb.from_ (h : Rb w A n l) (lo cap : Nat) (h1 : lo ≤ n) (h3 : n ≤ cap) : Rb w (if cap = lo then A else A.map (·.add lo)) (n - lo) (l.drop lo) := by
  have := Rd.from_ h lo cap h1 h3
  simp only [Nat.mul_one, by8_drop] at this
  exact this
theorem Rb.upto (h : Rb w A n l) (hi cap : Nat) (h2 : hi ≤ n) (h3 : n ≤ cap) : Rb w (if cap = 0 then A else A.map (·.add 0)) hi (l.take hi) := by
  have := Rd.upto h hi cap h2 h3
  simp only [Nat.mul_one, by8_take, Nat.sub_zero] at this
  exact this
theorem Rb.of_own {base : Nat} {e : TypeId} {c : Nat} (h : w.ownsRow base e 1 (.slice A n c) n (by8 l)) : Rb w A n l := Rd.of_own h

theorem strOf_by8 (l : List UInt8) : strOfNums (l.map fun c => (c.toNat : Int)) = ⟨l.toArray⟩ := by
  simp [strOfNums, Function.comp_def]
theorem getD_nums (l : List UInt8) (k : Nat) : (l.map fun c => (c.toNat : Int)).getD k 0 = ((l.getD k 0).toNat : Int) := by
  simp only [List.getD, List.getElem?_map]
  cases l[k]? <;> simp
/-- string(b). -/
theorem conv_bytes {P : Program} (src e dst : TypeId) (hs : P.underlying src = some (.slice e)) (he : P.underlying e = some (.int .u8)) (hd : P.underlying dst = some .string)
    (c : Nat) (h : Rb w A n l) : (convert src dst (.slice A n c)).run P w = .ok (.string ⟨l.toArray⟩) w := by
  have hl := h.len
  rcases Nat.eq_zero_or_pos n with h0 | h0
  · subst h0
    obtain rfl : l = [] := List.eq_nil_of_length_eq_zero hl
    rw [run_convert_bytes_string w src dst e A 0 c hs he hd]
    cases A <;> simp [Conv.bytesToString, loadCells, loadCellsFrom] <;> rfl
  · obtain ⟨b, o, rfl, _, hc⟩ := h.at_ h0
    rw [run_convert_bytes_arg w src e hs he b o n c (l.map fun c => (c.toNat : Int)) (by simpa using hl) (fun i hi => by rw [getD_nums]; exact hc i hi) dst hd, strOf_by8]
end

/-- Facts of old cells and marks, as the walk uses them. -/
theorem bcell {W w1 : World} (hb : Below W.heap.size W w1) : (∀ b o, b < W.heap.size → w1.cell? ⟨b, o, none⟩ = W.cell? ⟨b, o, none⟩) ∧ (∀ b o, b < W.heap.size → w1.frozen? ⟨b, o, none⟩ = W.frozen? ⟨b, o, none⟩) :=
  ⟨fun b o h => hb.cell (p := ⟨b, o, none⟩) h, fun b o h => hb.frozen (p := ⟨b, o, none⟩) h⟩
theorem Below.drewN' {B : Nat} {a w : World} (h : Below B a w) (n : Nat) : Below B a (w.drewN n) := ⟨h.os, h.tape, h.output, h.size, h.block⟩
/-- One call behind another. -/
theorem Below.then_ {W w1 w2 : World} (h : Below W.heap.size W w1) (k : Below w1.heap.size w1 w2) : Below W.heap.size W w2 := h.trans (k.mono h.size)

theorem Below.al {W w1 : World} (h : Below W.heap.size W w1) (o : Obj) : Below W.heap.size W (w1.alloc o) := h.alloc h.size o

/-- append(s, x...): s owned (nil at the start), x any slice that reads. -/
theorem wpList_app {P : Program} {w : World} {ops : Array Oper} {rest : List Oper} {o : Oper} {a : Act} {Q : Exit → Act → World → Prop} (hgd : o.guard = none) (s x : Operand) (t : TypeId)
    (ho : o.op = .call { callee := .builtin .append, args := #[s, x], argTypes := #[t, t] })
    (base : Nat) (e : TypeId) (z : Value) (size bytes : Nat) (ht : P.underlying t = some (.slice e)) (hi : (P.info? e).map (fun i => (i.zero, i.size, i.bytes)) = some (some z, size, bytes))
    (hzs : z.cells.size = size) (hsz : 0 < size)
    (A0 : Option Addr) (c0 n : Nat) (xs : List Value) (hs : a.eval s = .slice A0 n c0) (hown : w.ownsRow base e size (.slice A0 n c0) n xs)
    (A : Option Addr) (m c : Nat) (news : List Value) (hx : a.eval x = .slice A m c) (hr : Rd w A m size news) (h1 : ∀ u ∈ news, u.oneCell' = true)
    (h63 : n + m ≤ maxLen) (hbytes : (n + m) * bytes ≤ 140737488355328) (hbase : base ≤ w.heap.size)
    (h : ∀ A' c' w', w'.ownsRow base e size (.slice A' (n + m) c') (n + m) (xs ++ news) → w.grownBy w' (Value.slice A0 n c0).ownBlock →
      ((Value.slice A' (n + m) c').ownBlock = (Value.slice A0 n c0).ownBlock ∨ (Value.slice A' (n + m) c').ownBlock = some w.heap.size) →
      wpList P ops Q rest (a.put o.dst (.slice A' (n + m) c')) w') : wpList P ops Q (o :: rest) a w := by
  obtain ⟨i0, hi0, hz0, hz1, hz2⟩ := info_parts hi
  refine wpList_plain hgd fun K hK => ?_
  have main : ∃ A' c' w', (Builtin.append_ #[t, t] o.type #[.slice A0 n c0, .slice A m c]).run P w = .ok (.slice A' (n + m) c') w' ∧ w'.ownsRow base e size (.slice A' (n + m) c') (n + m) (xs ++ news) ∧
      w.grownBy w' (Value.slice A0 n c0).ownBlock ∧ ((Value.slice A' (n + m) c').ownBlock = (Value.slice A0 n c0).ownBlock ∨ (Value.slice A' (n + m) c').ownBlock = some w.heap.size) := by
    by_cases hm : m = 0
    · subst hm
      have hn : news = [] := List.eq_nil_of_length_eq_zero (by simpa using hr.1)
      subst hn
      refine ⟨A0, c0, w, ?_, by simpa using hown, World.grownBy.refl w _, .inl rfl⟩
      rcases hown.2 with ⟨hv, rfl⟩ | ⟨g, cap, cur, hv, _, _, hnc, _⟩
      · injection hv with e1 e2 e3
        subst e1; subst e3
        cases A <;> simp [Builtin.append_, run_underlying ht, sizeOf, typeInfo, hi0, Builtin.lenOf, Builtin.firstCells, loadCells, loadCellsFrom]
      · injection hv with e1 e2 e3
        subst e1; subst e3
        cases A <;> simp [Builtin.append_, run_underlying ht, sizeOf, typeInfo, hi0, Builtin.lenOf, Builtin.firstCells, hnc, storeCells, loadCells, loadCellsFrom]
    · have hp : 0 < news.length := by rw [hr.1]; exact Nat.mul_pos (by omega) hsz
      obtain ⟨b, o', rfl, _, hc⟩ := hr.at_ hp
      obtain ⟨v', w', hrun, h2, h3, _, h5⟩ := run_append_own_at (P := P) w base t o.type e i0 z size bytes ht hi0 hz0 hz1 hz2 hzs hsz (.slice A0 n c0) n xs hown ⟨b, o', none⟩ m c news hr.1
        (fun j u hu => by rw [add_plain]; exact hc j u hu) h1 h63 hbytes hbase
      obtain ⟨g, cap, rfl, _, _⟩ := h2.form (by omega)
      exact ⟨_, _, w', hrun, h2, h3, h5⟩
  obtain ⟨A', c', w', hrun, h2, h3, h4⟩ := main
  unfold Oper.wp execOp
  simp only [ho, resolve, invoke, builtin, Sem.run_bind, Sem.run_pure, Result.andThen_ok, List.map_toArray, List.map_cons, List.map_nil, hs, hx, hrun]
  exact hK _ _ (h A' c' w' h2 h3 h4)

/-- Block g is just these cells, none frozen. -/
def Vk (w : World) (g : Nat) (e : TypeId) (xs : List Value) : Prop := w.heap[g]? = some (.cells xs.toArray e (0, 0))
section
variable {w w' : World} {g : Nat} {e : TypeId} {xs : List Value}
theorem Vk.lt (h : Vk w g e xs) : g < w.heap.size := by
  rcases Nat.lt_or_ge g w.heap.size with hlt | hge
  · exact hlt
  · unfold Vk at h; rw [Array.getElem?_eq_none hge] at h; cases h
theorem Vk.cell (h : Vk w g e xs) (i : Nat) : w.cell? ⟨g, i, none⟩ = xs[i]? := by
  have := cell_of_row w g i xs.toArray e (0, 0) h
  simpa using this
theorem Vk.frozen (h : Vk w g e xs) (i : Nat) : w.frozen? ⟨g, i, none⟩ = false := by
  unfold Vk at h
  simp [World.frozen?, h]
theorem Vk.new (w : World) (e : TypeId) (xs : List Value) : Vk (w.alloc (.cells xs.toArray e)) w.heap.size e xs := heap_alloc_new w _
theorem Vk.drew (h : Vk w g e xs) : Vk w.drew g e xs := h
theorem Vk.drewN (h : Vk w g e xs) (n : Nat) : Vk (w.drewN n) g e xs := h
theorem Vk.alloc (h : Vk w g e xs) (o : Obj) : Vk (w.alloc o) g e xs := (Below.heap_alloc w o g h.lt).trans h
theorem Vk.set_ (h : Vk w g e xs) (i : Nat) (u : Value) : Vk (w.setCell ⟨g, i, none⟩ u) g e (xs.set i u) := by
  unfold Vk at h ⊢
  simp [World.setCell, Array.getElem?_modify, h]
theorem Vk.far (h : Vk w g e xs) {p : Addr} (hp : g ≠ p.block) (u : Value) : Vk (w.setCell p u) g e xs := (Below.heap_setCell w p u g hp).trans h
theorem Vk.below {B : Nat} (h : Vk w g e xs) (hb : Below B w w') (hg : g < B) : Vk w' g e xs := (hb.block g hg).trans h
theorem Vk.grown {row : Option Nat} (h : Vk w g e xs) (hb : w.grownBy w' row) (hg : some g ≠ row) : Vk w' g e xs := (hb.block g h.lt hg).trans h
theorem Vk.rd (h : Vk w g e xs) (size n : Nat) (hn : xs.length = n * size) : Rd w (some ⟨g, 0, none⟩) n size xs :=
  ⟨hn, fun _ => ⟨g, 0, rfl, fun j u hu => by rw [Nat.zero_add, h.cell, hu]⟩⟩
theorem Vk.rb {l : List UInt8} (h : Vk w g e (by8 l)) : Rb w (some ⟨g, 0, none⟩) l.length l := h.rd 1 _ (by simp [by8_length])
/-- A row that is owned up to its capacity. -/
theorem Vk.of_own {base n : Nat} {size : Nat} (h : w.ownsRow base e size (.slice (some ⟨g, 0, none⟩) n n) n xs) : Vk w g e xs := by
  rcases h.2 with ⟨hv, _⟩ | ⟨g', cap, cur, hv, _, hg, _, _, hcs, ht⟩
  · cases hv
  · injection hv with e1 e2 e3
    injection e1 with e1
    injection e1 with e1
    subst e1; subst e3
    have : cur.toList = xs := by rw [← ht, List.take_of_length_le (by simp [hcs])]
    subst this
    exact hg
theorem Vk.own (h : Vk w g e xs) {base n size : Nat} (hb : base ≤ g) (hn : xs.length = n * size) (hm : n ≤ maxLen) : w.ownsRow base e size (.slice (some ⟨g, 0, none⟩) n n) n xs :=
  ⟨hn, .inr ⟨g, n, xs.toArray, rfl, hb, h, Nat.le_refl _, hm, by simpa using hn, by simp [← hn]⟩⟩
end

/-- copy(dst, src): dst at place 'off' of a block that is known whole; src any slice that reads. -/
theorem wpList_cp {P : Program} {w : World} {ops : Array Oper} {rest : List Oper} {o : Oper} {a : Act} {Q : Exit → Act → World → Prop} (hgd : o.guard = none) (d s : Operand) (dT sT : TypeId)
    (ho : o.op = .call { callee := .builtin .copy, args := #[d, s], argTypes := #[dT, sT] }) (elem : TypeId) (hu : P.underlying dT = some (.slice elem)) (hsz : (P.info? elem).map (·.size) = some 1)
    (dp sp : Option Addr) (dLen dCap sLen sCap : Nat) (hd : a.eval d = .slice dp dLen dCap) (hs : a.eval s = .slice sp sLen sCap)
    (g off k : Nat) (cur : List Value) (e : TypeId) (hg : Vk w g e cur) (src : List Value) (hr : Rd w sp sLen 1 src) (hk : k = min sLen dLen)
    (hdp : 0 < k → dp = some ⟨g, off, none⟩) (hfit : off + k ≤ cur.length) (h1 : ∀ v ∈ src, v.oneCell' = true)
    (h : ∀ w', Hid (Vk w' g e (splice cur off (src.take k))) → w.grownBy w' (some g) → wpList P ops Q rest (a.put o.dst (goInt k)) w') :
    wpList P ops Q (o :: rest) a w := by
  have hsl : src.length = sLen := by simpa using hr.1
  have hkl : (src.take k).length = k := by rw [List.length_take]; omega
  by_cases h0 : k = 0
  · subst h0
    refine wpList_copy_nothing hgd d s dT sT ho elem hu hsz dp sp dLen dCap sLen sCap hd hs (by simpa [Nat.min_def] using hk.symm) ?_
    exact h w (show Vk _ _ _ _ by simpa [splice] using hg) (World.grownBy.refl w _)
  · obtain rfl := hdp (by omega)
    obtain ⟨b, o', rfl, _, hc⟩ := hr.at_ (by omega)
    have hh : Vk (w.setRow g (splice cur off (src.take k)).toArray) g e (splice cur off (src.take k)) := setRow_heap w g _ _ e _ hg
    have hgr : w.grownBy (w.setRow g (splice cur off (src.take k)).toArray) (some g) :=
      ⟨rfl, rfl, rfl, by simp [World.setRow], fun q _ hq => setRow_other w g q _ (fun e' => hq (by rw [e']))⟩
    refine wpList_copy_own hgd d s dT sT ho elem hu hsz g off dLen dCap ⟨b, o', none⟩ sLen sCap hd hs cur.toArray e hg (src.take k) (by rw [hkl, hk])
      (fun j v hj => by rw [add_plain]; exact hc j v (by rw [List.getElem?_take] at hj; split at hj <;> first | exact hj | cases hj)) (by rw [hkl]; simpa using hfit)
      (fun v hv => h1 v (List.mem_of_mem_take hv)) ?_
    have hfin := h _ hh hgr
    have e2 : (cur.toArray.toList.take off ++ (src.take k ++ cur.toArray.toList.drop (off + (src.take k).length))).toArray = (splice cur off (src.take k)).toArray := rfl
    rw [e2, hkl]
    exact hfin
theorem splice_by8 (L : List UInt8) (off : Nat) (M : List UInt8) : splice (by8 L) off (by8 M) = by8 (splice L off M) := by
  simp [splice, by8]
theorem set_by8 (L : List UInt8) (i : Nat) (c : UInt8) : (by8 L).set i (.int .u8 (c.toNat : Int)) = by8 (L.set i c) := by
  simp [by8, List.map_set]
theorem zeros_by8 (n : Nat) : List.replicate n (Value.int .u8 0) = by8 (List.replicate n 0) := by
  simp [by8]

/-- Where s[k:] begins: at the capacity's end nothing is pointed behind. -/
def cutA (A : Option Addr) (c k : Nat) : Option Addr := if c = k then A else A.map (·.add k)
theorem cutA_at (b o c k : Nat) (h : c ≠ k) : cutA (some ⟨b, o, none⟩) c k = some ⟨b, o + k, none⟩ := by
  unfold cutA; rw [if_neg h]; simp [add_plain]
theorem Rd.lo_ {w : World} {A : Option Addr} {n size : Nat} {xs : List Value} (h : Rd w A n size xs) (k c : Nat) (h1 : k ≤ n) (h3 : n ≤ c) :
    Rd w (if c = k then A else A.map (·.add (k * size))) (n - k) size (xs.drop (k * size)) := h.from_ k c h1 h3
theorem Rb.lo_ {w : World} {A : Option Addr} {n : Nat} {l : List UInt8} (h : Rb w A n l) (k c : Nat) (h1 : k ≤ n) (h3 : n ≤ c) : Rb w (cutA A c k) (n - k) (l.drop k) := h.from_ k c h1 h3
theorem Rb.lohi_ {w : World} {A : Option Addr} {n : Nat} {l : List UInt8} (h : Rb w A n l) (k j c : Nat) (h1 : k ≤ j) (h2 : j ≤ n) (h3 : n ≤ c) : Rb w (cutA A c k) (j - k) ((l.drop k).take (j - k)) := h.cut k j c h1 h2 h3
theorem Rb.hi_ {w : World} {A : Option Addr} {n : Nat} {l : List UInt8} (h : Rb w A n l) (j c : Nat) (h2 : j ≤ n) (h3 : n ≤ c) : Rb w (cutA A c 0) j (l.take j) := by
  have := h.cut 0 j c (Nat.zero_le _) h2 h3
  simp only [Nat.sub_zero, List.drop_zero] at this
  exact this
theorem one_size {P : Program} {e : TypeId} (hs : (P.info? e).map (·.size) = some 1) (w : World) : (sizeOf e).run P w = .ok 1 w := by
  obtain ⟨i, hi, h1⟩ := Option.map_eq_some_iff.1 hs
  simp [sizeOf, typeInfo, hi, h1]
section
variable {P : Program} {t e : TypeId} (ht : P.underlying t = some (.slice e)) (hs : (P.info? e).map (·.size) = some 1)
include ht hs
/-- s[k:], s[k:j], s[:j] of one-cell elements, the address under one name. -/
theorem run_lo (A : Option Addr) (n c k : Nat) (x : Int) (hx : x = k) (h1 : k ≤ n) (w : World) :
    (Instr.slice t (.slice A n c) (some (.int .i64 x)) none none).run P w = .ok (.slice (cutA A c k) (n - k) (c - k)) w := by
  subst hx
  have h0 : (0 : Int) ≤ (k : Int) := by omega
  have h1' : (k : Int) ≤ (n : Int) := by omega
  simp [Instr.slice, run_underlying ht, Instr.sliceBounds, run_sliceBound, h0, h1', one_size hs, cutA]
theorem run_lohi (A : Option Addr) (n c k j : Nat) (x y : Int) (hx : x = k) (hy : y = j) (h1 : k ≤ j) (h2 : j ≤ c) (w : World) :
    (Instr.slice t (.slice A n c) (some (.int .i64 x)) (some (.int .i64 y)) none).run P w = .ok (.slice (cutA A c k) (j - k) (c - k)) w := by
  subst hx; subst hy
  have h0 : (0 : Int) ≤ (k : Int) := by omega
  have h0' : (0 : Int) ≤ (j : Int) := by omega
  have h1' : (k : Int) ≤ (j : Int) := by omega
  have h2' : (j : Int) ≤ (c : Int) := by omega
  simp [Instr.slice, run_underlying ht, Instr.sliceBounds, run_sliceBound, h0, h0', h1', h2', one_size hs, cutA]
theorem run_hi (A : Option Addr) (n c j : Nat) (y : Int) (hy : y = j) (h2 : j ≤ c) (w : World) :
    (Instr.slice t (.slice A n c) none (some (.int .i64 y)) none).run P w = .ok (.slice (cutA A c 0) j c) w := by
  subst hy
  have h0' : (0 : Int) ≤ (j : Int) := by omega
  have h2' : (j : Int) ≤ (c : Int) := by omega
  simp [Instr.slice, run_underlying ht, Instr.sliceBounds, run_sliceBound, h0', h2', one_size hs, cutA]
end
/-- n zero bytes. -/
def zs8 (n : Nat) : List UInt8 := List.replicate n 0
theorem zs8_length (n : Nat) : (zs8 n).length = n := by simp [zs8]
theorem zs8_get (N i : Nat) (h : i < N) : (by8 (zs8 N))[i]? = some (.int .u8 0) := by
  rw [by8_get _ _ (by rw [zs8_length]; exact h)]
  simp [zs8, List.getD, h]
theorem made_by8 (N : Nat) : (madeCells (Value.int IntKind.u8 0).cells (N * 1)).toList = by8 (zs8 N) := by
  rw [zs8, ← zeros_by8, Nat.mul_one]
  exact toList_madeCells_one _ _

/-- What an argument of type []byte hands over. -/
theorem rb_of_cells {w : World} {x : Addr} {len cap : Nat} {zs : List Int} (hl : len ≤ cap) (hz : zs.length = cap) (hc : ∀ i, i < zs.length → w.cell? (x.add i) = some (.int .u8 (zs.getD i 0)))
    (hb : ∀ n ∈ zs, 0 ≤ n ∧ n < 256) : ∃ l, Rb w (some x) len l := by
  refine ⟨(zs.take len).map fun z => UInt8.ofNat z.toNat, by simp [by8]; omega, fun hp => ?_⟩
  have hlen : 0 < zs.length := by simp [by8] at hp; omega
  obtain ⟨b, o, s⟩ := x
  obtain rfl : s = none := by simpa [Addr.add] using World.cell?_spot (hc 0 hlen)
  refine ⟨b, o, rfl, fun j u hu => ?_⟩
  have hj : j < len ∧ j < zs.length := by
    have := (List.getElem?_eq_some_iff.1 hu).1
    simp [by8] at this
    omega
  rw [← add_plain, hc j hj.2, ← hu]
  have hz := hb zs[j] (List.getElem_mem hj.2)
  simp [by8, List.getD, hj.1, hj.2]
  omega

/-- string(b), as an operation that may be guarded (its guard says yes). -/
theorem wpList_cv {P : Program} {w : World} {ops : Array Oper} {rest : List Oper} {o : Oper} {a : Act} {Q : Exit → Act → World → Prop} (hw : Region.wanted o (yielded ops a.tmps) = true) (x : Operand) (src e dst : TypeId)
    (ho : o.op = .convert src dst x) (hs : P.underlying src = some (.slice e)) (he : P.underlying e = some (.int .u8)) (hd : P.underlying dst = some .string)
    (A : Option Addr) (n c : Nat) (hx : a.eval x = .slice A n c) (l : List UInt8) (hr : Rb w A n l)
    (h : wpList P ops Q rest (a.put o.dst (.string ⟨l.toArray⟩)) w) : wpList P ops Q (o :: rest) a w := by
  refine BigFrame.wpList_want hw fun K hK => ?_
  have hrun := conv_bytes (P := P) src e dst hs he hd c hr
  unfold Oper.wp execOp
  simp only [ho, hx, Sem.run_bind, hrun, Result.andThen_ok, Sem.run_pure]
  exact hK _ _ h

end Go.Proofs.Ytcmlegpfapomnaa
