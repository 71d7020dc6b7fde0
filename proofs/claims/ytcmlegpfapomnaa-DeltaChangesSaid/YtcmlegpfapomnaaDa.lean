/- Pairs and changes: how they lie; the walks of the keys and of 'rising'. -/
import Derived.Test.YtcmlegpfapomnaaRows
import Derived.Test.YtcmlegpfapomnaaStep
import Derived.Deep.RegionHeld
import Derived.Deep.RegionWith
import Derived.Deep.QuietTactic
import Derived.Deep.RegionLaw
import Derived.Deep.DeepCutAuto
import Derived.BigQuiet
import Derived.Laws.StructEq
import Derived.Lib.Bytealg
import Derived.Lib.Strings
import Derived.Lib.Walk
namespace Go.Proofs.Ytcmlegpfapomnaa
open Go.RowKit
open Go.Op (bytesLess)

/-- A string's bytes. -/
abbrev Sx := List UInt8
/-- Do keys rise, each once? -/
def ris : List Sx → Bool
  | [] => true
  | [_] => true
  | a :: b :: l => bytesLess a b && ris (b :: l)
theorem ris_no : ∀ {l : List Sx} {k : Nat}, k + 1 < l.length → bytesLess (l.getD k []) (l.getD (k + 1) []) = false → ris l = false
  | [], k, h, _ => by simp at h
  | [_], k, h, _ => by simp at h
  | a :: b :: l, 0, _, h => by
    have h' : bytesLess a b = false := h
    simp [ris, h']
  | a :: b :: l, k + 1, hk, h => by
    have ih := ris_no (l := b :: l) (k := k) (by simpa using hk) (by simpa using h)
    simp [ris, ih]
theorem ris_yes : ∀ {l : List Sx}, (∀ k, k + 1 < l.length → bytesLess (l.getD k []) (l.getD (k + 1) []) = true) → ris l = true
  | [], _ => rfl
  | [_], _ => rfl
  | a :: b :: l, h => by
    have h0 : bytesLess a b = true := h 0 (by simp)
    have ih := ris_yes (l := b :: l) (fun k hk => by have := h (k + 1) (by simpa using hk); simpa using this)
    simp [ris, h0, ih]
theorem str_list (x : Sx) : (⟨x.toArray⟩ : ByteArray).toList = x := by rw [ByteArray.toList_eq]
theorem geq_str (x y : Sx) (w : World) : (binOp .geq 9 (.string ⟨x.toArray⟩) (.string ⟨y.toArray⟩)).run Try.prog w = .ok (.bool (!(bytesLess x y))) w := by
  simp [binOp, Op.stringOp]
theorem neq_str (x y : Sx) (w : World) : (binOp .neq 9 (.string ⟨x.toArray⟩) (.string ⟨y.toArray⟩)).run Try.prog w = .ok (.bool (!(decide (x = y)))) w := by
  simp [binOp, Op.stringOp]
  by_cases h : x = y <;> simp [h]
theorem eql_str (x y : Sx) (w : World) : (binOp .eql 9 (.string ⟨x.toArray⟩) (.string ⟨y.toArray⟩)).run Try.prog w = .ok (.bool (decide (x = y))) w := by
  simp [binOp, Op.stringOp]
  by_cases h : x = y <;> simp [h]
structure Pr where
  k : Sx
  v : Sx
deriving DecidableEq
def prC (x : Pr) : List Value := [.string ⟨x.k.toArray⟩, .string ⟨x.v.toArray⟩]
def prV (x : Pr) : Value := .agg #[.string ⟨x.k.toArray⟩, .string ⟨x.v.toArray⟩]
def prs (L : List Pr) : List Value := L.flatMap prC
def pr0 : Pr := ⟨[], []⟩
def nthP (L : List Pr) (k : Nat) : Pr := L.getD k pr0
theorem prs_length (L : List Pr) : (prs L).length = L.length * 2 := by
  induction L with
  | nil => rfl
  | cons a l ih => simp only [prs, List.flatMap_cons, List.length_append, List.length_cons] at *; simp only [prC, List.length_cons, List.length_nil]; omega
theorem prs_app (L M : List Pr) : prs (L ++ M) = prs L ++ prs M := by simp [prs]
theorem prs_get : ∀ (L : List Pr) (k : Nat), k < L.length → (prs L)[k * 2]? = some (.string ⟨(nthP L k).k.toArray⟩) ∧ (prs L)[k * 2 + 1]? = some (.string ⟨(nthP L k).v.toArray⟩)
  | [], k, h => absurd h (by simp)
  | a :: l, 0, _ => ⟨rfl, rfl⟩
  | a :: l, k + 1, h => by
    have ih := prs_get l k (by simpa using h)
    have e : ∀ j, (prs (a :: l))[(k + 1) * 2 + j]? = (prs l)[k * 2 + j]? := fun j => by
      show (prC a ++ prs l)[(k + 1) * 2 + j]? = _
      rw [List.getElem?_append_right (by simp [prC]; omega)]
      congr 1
      simp [prC]; omega
    have n1 : nthP (a :: l) (k + 1) = nthP l k := by simp [nthP]
    rw [n1]
    exact ⟨(e 0).trans ih.1, (e 1).trans ih.2⟩
theorem prs_drop (L : List Pr) : ∀ k, (prs L).drop (k * 2) = prs (L.drop k) := by
  induction L with
  | nil => intro k; simp [prs]
  | cons a l ih =>
    intro k
    cases k with
    | zero => rfl
    | succ k =>
      show (prC a ++ prs l).drop ((k + 1) * 2) = prs (l.drop k)
      rw [List.drop_append, List.drop_of_length_le (by simp [prC]; omega), List.nil_append, ← ih k]
      congr 1
      simp [prC]; omega
theorem prs_one (L : List Pr) : ∀ u ∈ prs L, u.oneCell' = true := by
  intro u hu
  simp only [prs, List.mem_flatMap, prC, List.mem_cons, List.not_mem_nil, or_false] at hu
  obtain ⟨t, _, h⟩ := hu
  rcases h with rfl | rfl <;> rfl
def Rp (w : World) (A : Option Addr) (n : Nat) (L : List Pr) : Prop := Rd w A n 2 (prs L)
section
variable {w w' : World} {A : Option Addr} {n : Nat} {L : List Pr}
theorem Rp.len (h : Rp w A n L) : L.length = n := by have := h.1; rw [prs_length] at this; omega
theorem Rp.below (h : Rp w A n L) (hb : Below w.heap.size w w') : Rp w' A n L := Rd.below h hb
theorem Rp.drew (h : Rp w A n L) : Rp w.drew A n L := Rd.drew h
theorem Rp.drewN (h : Rp w A n L) (q : Nat) : Rp (w.drewN q) A n L := Rd.drewN h q
theorem Rp.al (h : Rp w A n L) (o : Obj) : Rp (w.alloc o) A n L := Rd.alloc h o
theorem Rp.at_ (h : Rp w A n L) {k : Nat} (hk : k < n) : ∃ b o, A = some ⟨b, o, none⟩ ∧ b < w.heap.size ∧ w.cell? ⟨b, o + k * 2, none⟩ = some (.string ⟨(nthP L k).k.toArray⟩) ∧ w.cell? ⟨b, o + k * 2 + 1, none⟩ = some (.string ⟨(nthP L k).v.toArray⟩) := by
  have hl := h.len
  obtain ⟨b, o, rfl, hb, hc⟩ := Rd.at_ h (by rw [prs_length]; omega)
  obtain ⟨h0, h1⟩ := prs_get L k (by omega)
  exact ⟨b, o, rfl, hb, hc _ _ h0, by rw [Nat.add_assoc]; exact hc _ _ h1⟩
theorem Rp.none_ (w : World) (A : Option Addr) : Rp w A 0 [] := Rd.none_ w A 2
theorem Rp.of_own {base : Nat} {e : TypeId} {c : Nat} (h : w.ownsRow base e 2 (.slice A n c) n (prs L)) : Rp w A n L := Rd.of_own h
end
structure Ch where
  k : Sx
  was : Sx
  now : Sx
  had : Bool
  has : Bool
deriving DecidableEq
def chC (x : Ch) : List Value := [.string ⟨x.k.toArray⟩, .string ⟨x.was.toArray⟩, .string ⟨x.now.toArray⟩, .bool x.had, .bool x.has]
def chV (x : Ch) : Value := .agg #[.string ⟨x.k.toArray⟩, .string ⟨x.was.toArray⟩, .string ⟨x.now.toArray⟩, .bool x.had, .bool x.has]
def chs (L : List Ch) : List Value := L.flatMap chC
def ch0 : Ch := ⟨[], [], [], false, false⟩
def nthC (L : List Ch) (k : Nat) : Ch := L.getD k ch0
theorem chs_length (L : List Ch) : (chs L).length = L.length * 5 := by
  induction L with
  | nil => rfl
  | cons a l ih => simp only [chs, List.flatMap_cons, List.length_append, List.length_cons] at *; simp only [chC, List.length_cons, List.length_nil]; omega
theorem chs_app (L M : List Ch) : chs (L ++ M) = chs L ++ chs M := by simp [chs]
theorem chs_get : ∀ (L : List Ch) (k : Nat), k < L.length → (chs L)[k * 5]? = some (.string ⟨(nthC L k).k.toArray⟩) ∧ (chs L)[k * 5 + 1]? = some (.string ⟨(nthC L k).was.toArray⟩) ∧ (chs L)[k * 5 + 2]? = some (.string ⟨(nthC L k).now.toArray⟩) ∧ (chs L)[k * 5 + 3]? = some (.bool (nthC L k).had) ∧ (chs L)[k * 5 + 4]? = some (.bool (nthC L k).has)
  | [], k, h => absurd h (by simp)
  | a :: l, 0, _ => ⟨rfl, rfl, rfl, rfl, rfl⟩
  | a :: l, k + 1, h => by
    have ih := chs_get l k (by simpa using h)
    have e : ∀ j, (chs (a :: l))[(k + 1) * 5 + j]? = (chs l)[k * 5 + j]? := fun j => by
      show (chC a ++ chs l)[(k + 1) * 5 + j]? = _
      rw [List.getElem?_append_right (by simp [chC]; omega)]
      congr 1
      simp [chC]; omega
    have n1 : nthC (a :: l) (k + 1) = nthC l k := by simp [nthC]
    rw [n1]
    exact ⟨(e 0).trans ih.1, (e 1).trans ih.2.1, (e 2).trans ih.2.2.1, (e 3).trans ih.2.2.2.1, (e 4).trans ih.2.2.2.2⟩
theorem chs_drop (L : List Ch) : ∀ k, (chs L).drop (k * 5) = chs (L.drop k) := by
  induction L with
  | nil => intro k; simp [chs]
  | cons a l ih =>
    intro k
    cases k with
    | zero => rfl
    | succ k =>
      show (chC a ++ chs l).drop ((k + 1) * 5) = chs (l.drop k)
      rw [List.drop_append, List.drop_of_length_le (by simp [chC]; omega), List.nil_append, ← ih k]
      congr 1
      simp [chC]; omega
theorem chs_one (L : List Ch) : ∀ u ∈ chs L, u.oneCell' = true := by
  intro u hu
  simp only [chs, List.mem_flatMap, chC, List.mem_cons, List.not_mem_nil, or_false] at hu
  obtain ⟨t, _, h⟩ := hu
  rcases h with rfl | rfl | rfl | rfl | rfl <;> rfl
def Rch (w : World) (A : Option Addr) (n : Nat) (L : List Ch) : Prop := Rd w A n 5 (chs L)
section
variable {w w' : World} {A : Option Addr} {n : Nat} {L : List Ch}
theorem Rch.len (h : Rch w A n L) : L.length = n := by have := h.1; rw [chs_length] at this; omega
theorem Rch.below (h : Rch w A n L) (hb : Below w.heap.size w w') : Rch w' A n L := Rd.below h hb
theorem Rch.drew (h : Rch w A n L) : Rch w.drew A n L := Rd.drew h
theorem Rch.drewN (h : Rch w A n L) (q : Nat) : Rch (w.drewN q) A n L := Rd.drewN h q
theorem Rch.al (h : Rch w A n L) (o : Obj) : Rch (w.alloc o) A n L := Rd.alloc h o
theorem Rch.at_ (h : Rch w A n L) {k : Nat} (hk : k < n) : ∃ b o, A = some ⟨b, o, none⟩ ∧ b < w.heap.size ∧ w.cell? ⟨b, o + k * 5, none⟩ = some (.string ⟨(nthC L k).k.toArray⟩) ∧ w.cell? ⟨b, o + k * 5 + 1, none⟩ = some (.string ⟨(nthC L k).was.toArray⟩) ∧ w.cell? ⟨b, o + k * 5 + 2, none⟩ = some (.string ⟨(nthC L k).now.toArray⟩) ∧ w.cell? ⟨b, o + k * 5 + 3, none⟩ = some (.bool (nthC L k).had) ∧ w.cell? ⟨b, o + k * 5 + 4, none⟩ = some (.bool (nthC L k).has) := by
  have hl := h.len
  obtain ⟨b, o, rfl, hb, hc⟩ := Rd.at_ h (by rw [chs_length]; omega)
  obtain ⟨h0, h1, h2, h3, h4⟩ := chs_get L k (by omega)
  exact ⟨b, o, rfl, hb, hc _ _ h0, by rw [Nat.add_assoc]; exact hc _ _ h1, by rw [Nat.add_assoc]; exact hc _ _ h2, by rw [Nat.add_assoc]; exact hc _ _ h3, by rw [Nat.add_assoc]; exact hc _ _ h4⟩
theorem Rch.none_ (w : World) (A : Option Addr) : Rch w A 0 [] := Rd.none_ w A 5
theorem Rch.of_own {base : Nat} {e : TypeId} {c : Nat} (h : w.ownsRow base e 5 (.slice A n c) n (chs L)) : Rch w A n L := Rd.of_own h
end
theorem nthP_map (L : List Pr) (k : Nat) (h : k < L.length) : (L.map Pr.k).getD k [] = (nthP L k).k := by simp [nthP, List.getD, h]
theorem nthC_map (L : List Ch) (k : Nat) (h : k < L.length) : (L.map Ch.k).getD k [] = (nthC L k).k := by simp [nthC, List.getD, h]
theorem nthP_key (x : Pr) (w : World) : Calls Try.prog 28 #[.agg #[.string ⟨x.k.toArray⟩, .string ⟨x.v.toArray⟩]] w fun e w' => e = .returned (.string ⟨x.k.toArray⟩) ∧ Below w.heap.size w w' := by
  go_enter Try.func28, Try.ntmps28
  go_wp2_with fail
  go_ret
  exact ⟨rfl, Below.al (Below.refl _ _) _⟩
theorem nthC_key (x : Ch) (w : World) : Calls Try.prog 33 #[.agg #[.string ⟨x.k.toArray⟩, .string ⟨x.was.toArray⟩, .string ⟨x.now.toArray⟩, .bool x.had, .bool x.has]] w fun e w' => e = .returned (.string ⟨x.k.toArray⟩) ∧ Below w.heap.size w w' := by
  go_enter Try.func33, Try.ntmps33
  go_wp2_with fail
  go_ret
  exact ⟨rfl, Below.al (Below.refl _ _) _⟩
set_option maxHeartbeats 4000000 in
theorem nthP_rising (A : Option Addr) (n c : Nat) (L : List Pr) (w : World) (hn : n ≤ 1000) (h : Rp w A n L) :
    Calls Try.prog 27 #[.slice A n c, .func (.func 28) #[] #[]] w fun e w' => e = .returned (.bool (ris (L.map Pr.k))) ∧ Below w.heap.size w w' := by
  have H := hide h
  have HL := hide h.len
  clear h
  obtain ⟨R, hR⟩ : ∃ R, ris (L.map Pr.k) = R := ⟨_, rfl⟩
  rw [hR]
  have HR := hide hR
  clear hR
  go_enter Try.func27, Try.ntmps27
  go_wp2_with fail
  go_loopw [5] (fun i wr => ∃ k : Nat, 1 ≤ k ∧ k ≤ max 1 n ∧ i = .int .i64 k ∧ (∀ j, j + 1 < k → bytesLess (nthP L j).k (nthP L (j + 1)).k = true) ∧ Below w.heap.size w wr) (fun i _ => 1 + n - (intOf i).toNat)
  case atStart => exact ⟨1, Nat.le_refl _, by omega, rfl, fun j hj => absurd hj (by omega), Below.refl _ _⟩
  case round =>
    obtain ⟨k, hk1, hk2, rfl, hno, hbr⟩ := hrel
    have HN := hide hno
    have HB := hide hbr
    clear hno
    by_cases hlt : k < n
    · obtain ⟨j, rfl⟩ : ∃ j, k = j + 1 := ⟨k - 1, by omega⟩
      obtain ⟨b, o, rfl, hb, g0, g1⟩ := (H.out.below hbr).at_ (k := j) (by omega)
      obtain ⟨b', o', hbo, _, q0, q1⟩ := (H.out.below hbr).at_ (k := j + 1) hlt
      cases hbo
      obtain ⟨X, hX⟩ : ∃ X, nthP L j = X := ⟨_, rfl⟩
      obtain ⟨Y, hY⟩ : ∃ Y, nthP L (j + 1) = Y := ⟨_, rfl⟩
      rw [hX] at g0 g1
      rw [hY] at q0 q1
      have HX := hide hX
      have HY := hide hY
      have hj0 : (0 : Int) ≤ (j : Int) := by omega
      have hjn : (j : Int) + 1 < (n : Int) := by omega
      have hjn2 : (j : Int) < (n : Int) := by omega
      have hj1 : (0 : Int) ≤ (j : Int) + 1 := by omega
      have hw1 : IntKind.i64.wrap ((j : Int) + 1 - 1) = (j : Int) := by rw [IntKind.wrap_i64]; omega
      have hw2 : IntKind.i64.wrap (j : Int) = (j : Int) := by rw [IntKind.wrap_i64]; omega
      have hw3 : wrap64 ((j : Int) + 1 - 1) = (j : Int) := by unfold wrap64; omega
      have hw4 : wrap64 (j : Int) = (j : Int) := by unfold wrap64; omega
      have hw5 : (j : Int) + 1 - 1 = (j : Int) := by omega
      have BL := hide hb
      have KX := hide (fun w => nthP_key X w)
      have KY := hide (fun w => nthP_key Y w)
      have HK := hide (show Below wr.heap.size wr wr.drew from (Below.refl wr.heap.size wr).drew)
      obtain ⟨q, hq⟩ : ∃ q, (!(bytesLess X.k Y.k)) = q := ⟨_, rfl⟩
      have HQ := hide hq
      clear hbr hX hY hq hb
      go_wp2_with fail
      go_region_held (fun z => z.cell? ⟨b, o + j * 2, none⟩ = some (.string ⟨X.k.toArray⟩) ∧ z.cell? ⟨b, o + j * 2 + 1, none⟩ = some (.string ⟨X.v.toArray⟩) ∧ z.cell? ⟨b, o + (j + 1) * 2, none⟩ = some (.string ⟨Y.k.toArray⟩) ∧ z.cell? ⟨b, o + (j + 1) * 2 + 1, none⟩ = some (.string ⟨Y.v.toArray⟩))
        (first | go_keep | exact ⟨(HK.out.cell (p := ⟨b, o + j * 2, none⟩) BL.out).trans g0, (HK.out.cell (p := ⟨b, o + j * 2 + 1, none⟩) BL.out).trans g1, (HK.out.cell (p := ⟨b, o + (j + 1) * 2, none⟩) BL.out).trans q0, (HK.out.cell (p := ⟨b, o + (j + 1) * 2 + 1, none⟩) BL.out).trans q1⟩)
        (first
          | (go_at_call_of 28 X.k.toArray
             refine (KX.out _).mono ?_
             rintro r w1 ⟨rfl, hk⟩
             have HK := hide (Below.then_ HK.out hk)
             clear hk)
          | (go_at_call_of 28 Y.k.toArray
             refine (KY.out _).mono ?_
             rintro r w2 ⟨rfl, hk⟩
             have HK := hide (Below.then_ HK.out hk)
             clear hk))
      all_goals rw [HQ.out]
      all_goals cases q
      · go_wp2_with fail
        go_roundw
        case rel =>
          refine ⟨j + 1 + 1, by omega, by omega, by go_num, fun i hi => ?_, Below.then_ HB.out HK.out⟩
          rcases Nat.lt_or_ge (i + 1) (j + 1) with h1 | h1
          · exact HN.out i h1
          · obtain rfl : i = j := by omega
            rw [HX.out, HY.out]; simpa using HQ.out
        case measure => simp [intOf]; omega
      · go_wp2_with fail
        go_ret
        refine ⟨?_, Below.then_ HB.out HK.out⟩
        rw [← HR.out, ris_no (k := j) (by rw [List.length_map, HL.out]; exact hlt) (by rw [nthP_map L j (by rw [HL.out]; omega), nthP_map L (j + 1) (by rw [HL.out]; exact hlt), HX.out, HY.out]; simpa using HQ.out)]
        rfl
    · go_wp2_with fail
      go_ret
      refine ⟨?_, HB.out⟩
      rw [← HR.out, ris_yes (fun i hi => by
        rw [List.length_map, HL.out] at hi
        rw [nthP_map L i (by rw [HL.out]; omega), nthP_map L (i + 1) (by rw [HL.out]; omega)]
        exact HN.out i (by omega))]
      rfl
set_option maxHeartbeats 4000000 in
theorem nthC_rising (A : Option Addr) (n c : Nat) (L : List Ch) (w : World) (hn : n ≤ 1000) (h : Rch w A n L) :
    Calls Try.prog 37 #[.slice A n c, .func (.func 33) #[] #[]] w fun e w' => e = .returned (.bool (ris (L.map Ch.k))) ∧ Below w.heap.size w w' := by
  have H := hide h
  have HL := hide h.len
  clear h
  obtain ⟨R, hR⟩ : ∃ R, ris (L.map Ch.k) = R := ⟨_, rfl⟩
  rw [hR]
  have HR := hide hR
  clear hR
  go_enter Try.func37, Try.ntmps37
  go_wp2_with fail
  go_loopw [5] (fun i wr => ∃ k : Nat, 1 ≤ k ∧ k ≤ max 1 n ∧ i = .int .i64 k ∧ (∀ j, j + 1 < k → bytesLess (nthC L j).k (nthC L (j + 1)).k = true) ∧ Below w.heap.size w wr) (fun i _ => 1 + n - (intOf i).toNat)
  case atStart => exact ⟨1, Nat.le_refl _, by omega, rfl, fun j hj => absurd hj (by omega), Below.refl _ _⟩
  case round =>
    obtain ⟨k, hk1, hk2, rfl, hno, hbr⟩ := hrel
    have HN := hide hno
    have HB := hide hbr
    clear hno
    by_cases hlt : k < n
    · obtain ⟨j, rfl⟩ : ∃ j, k = j + 1 := ⟨k - 1, by omega⟩
      obtain ⟨b, o, rfl, hb, g0, g1, g2, g3, g4⟩ := (H.out.below hbr).at_ (k := j) (by omega)
      obtain ⟨b', o', hbo, _, q0, q1, q2, q3, q4⟩ := (H.out.below hbr).at_ (k := j + 1) hlt
      cases hbo
      obtain ⟨X, hX⟩ : ∃ X, nthC L j = X := ⟨_, rfl⟩
      obtain ⟨Y, hY⟩ : ∃ Y, nthC L (j + 1) = Y := ⟨_, rfl⟩
      rw [hX] at g0 g1 g2 g3 g4
      rw [hY] at q0 q1 q2 q3 q4
      have HX := hide hX
      have HY := hide hY
      have hj0 : (0 : Int) ≤ (j : Int) := by omega
      have hjn : (j : Int) + 1 < (n : Int) := by omega
      have hjn2 : (j : Int) < (n : Int) := by omega
      have hj1 : (0 : Int) ≤ (j : Int) + 1 := by omega
      have hw1 : IntKind.i64.wrap ((j : Int) + 1 - 1) = (j : Int) := by rw [IntKind.wrap_i64]; omega
      have hw2 : IntKind.i64.wrap (j : Int) = (j : Int) := by rw [IntKind.wrap_i64]; omega
      have hw3 : wrap64 ((j : Int) + 1 - 1) = (j : Int) := by unfold wrap64; omega
      have hw4 : wrap64 (j : Int) = (j : Int) := by unfold wrap64; omega
      have hw5 : (j : Int) + 1 - 1 = (j : Int) := by omega
      have BL := hide hb
      have KX := hide (fun w => nthC_key X w)
      have KY := hide (fun w => nthC_key Y w)
      have HK := hide (show Below wr.heap.size wr wr.drew from (Below.refl wr.heap.size wr).drew)
      obtain ⟨q, hq⟩ : ∃ q, (!(bytesLess X.k Y.k)) = q := ⟨_, rfl⟩
      have HQ := hide hq
      clear hbr hX hY hq hb
      go_wp2_with fail
      go_region_held (fun z => z.cell? ⟨b, o + j * 5, none⟩ = some (.string ⟨X.k.toArray⟩) ∧ z.cell? ⟨b, o + j * 5 + 1, none⟩ = some (.string ⟨X.was.toArray⟩) ∧ z.cell? ⟨b, o + j * 5 + 2, none⟩ = some (.string ⟨X.now.toArray⟩) ∧ z.cell? ⟨b, o + j * 5 + 3, none⟩ = some (.bool X.had) ∧ z.cell? ⟨b, o + j * 5 + 4, none⟩ = some (.bool X.has) ∧ z.cell? ⟨b, o + (j + 1) * 5, none⟩ = some (.string ⟨Y.k.toArray⟩) ∧ z.cell? ⟨b, o + (j + 1) * 5 + 1, none⟩ = some (.string ⟨Y.was.toArray⟩) ∧ z.cell? ⟨b, o + (j + 1) * 5 + 2, none⟩ = some (.string ⟨Y.now.toArray⟩) ∧ z.cell? ⟨b, o + (j + 1) * 5 + 3, none⟩ = some (.bool Y.had) ∧ z.cell? ⟨b, o + (j + 1) * 5 + 4, none⟩ = some (.bool Y.has))
        (first | go_keep | exact ⟨(HK.out.cell (p := ⟨b, o + j * 5, none⟩) BL.out).trans g0, (HK.out.cell (p := ⟨b, o + j * 5 + 1, none⟩) BL.out).trans g1, (HK.out.cell (p := ⟨b, o + j * 5 + 2, none⟩) BL.out).trans g2, (HK.out.cell (p := ⟨b, o + j * 5 + 3, none⟩) BL.out).trans g3, (HK.out.cell (p := ⟨b, o + j * 5 + 4, none⟩) BL.out).trans g4, (HK.out.cell (p := ⟨b, o + (j + 1) * 5, none⟩) BL.out).trans q0, (HK.out.cell (p := ⟨b, o + (j + 1) * 5 + 1, none⟩) BL.out).trans q1, (HK.out.cell (p := ⟨b, o + (j + 1) * 5 + 2, none⟩) BL.out).trans q2, (HK.out.cell (p := ⟨b, o + (j + 1) * 5 + 3, none⟩) BL.out).trans q3, (HK.out.cell (p := ⟨b, o + (j + 1) * 5 + 4, none⟩) BL.out).trans q4⟩)
        (first
          | (go_at_call_of 33 X.k.toArray
             refine (KX.out _).mono ?_
             rintro r w1 ⟨rfl, hk⟩
             have HK := hide (Below.then_ HK.out hk)
             clear hk)
          | (go_at_call_of 33 Y.k.toArray
             refine (KY.out _).mono ?_
             rintro r w2 ⟨rfl, hk⟩
             have HK := hide (Below.then_ HK.out hk)
             clear hk))
      all_goals rw [HQ.out]
      all_goals cases q
      · go_wp2_with fail
        go_roundw
        case rel =>
          refine ⟨j + 1 + 1, by omega, by omega, by go_num, fun i hi => ?_, Below.then_ HB.out HK.out⟩
          rcases Nat.lt_or_ge (i + 1) (j + 1) with h1 | h1
          · exact HN.out i h1
          · obtain rfl : i = j := by omega
            rw [HX.out, HY.out]; simpa using HQ.out
        case measure => simp [intOf]; omega
      · go_wp2_with fail
        go_ret
        refine ⟨?_, Below.then_ HB.out HK.out⟩
        rw [← HR.out, ris_no (k := j) (by rw [List.length_map, HL.out]; exact hlt) (by rw [nthC_map L j (by rw [HL.out]; omega), nthC_map L (j + 1) (by rw [HL.out]; exact hlt), HX.out, HY.out]; simpa using HQ.out)]
        rfl
    · go_wp2_with fail
      go_ret
      refine ⟨?_, HB.out⟩
      rw [← HR.out, ris_yes (fun i hi => by
        rw [List.length_map, HL.out] at hi
        rw [nthC_map L i (by rw [HL.out]; omega), nthC_map L (i + 1) (by rw [HL.out]; omega)]
        exact HN.out i (by omega))]
      rfl
end Go.Proofs.Ytcmlegpfapomnaa
