/- The walks of together at its three types. -/
import Derived.Test.YtcmlegpfapomnaaDf
namespace Go.Proofs.Ytcmlegpfapomnaa
open Go.RowKit
open Go.Op (bytesLess)

def cut1 (A : Option Addr) (c s : Nat) : Option Addr := if c = 1 then A else A.map (·.add s)
def lenV : Value → Nat
  | .slice _ n _ => n
  | _ => 0
theorem Rp.tail {w : World} {A : Option Addr} {k c : Nat} {a : Pr} {l : List Pr} (h : Rp w A (k + 1) (a :: l)) (hc : k + 1 ≤ c) : Rp w (cut1 A c 2) k l := by
  have := Rd.from_ h 1 c (by omega) hc
  rw [show k + 1 - 1 = k by omega, prs_drop (a :: l) 1] at this
  show Rd w (cut1 A c 2) k 2 (prs l)
  simpa [cut1] using this
theorem Rp.head {w : World} {A : Option Addr} {k : Nat} {a : Pr} {l : List Pr} (h : Rp w A (k + 1) (a :: l)) : ∃ b o, A = some ⟨b, o, none⟩ ∧ b < w.heap.size ∧ w.cell? ⟨b, o, none⟩ = some (.string ⟨a.k.toArray⟩) ∧ w.cell? ⟨b, o + 1, none⟩ = some (.string ⟨a.v.toArray⟩) := by
  have := h.at_ (k := 0) (by omega)
  simpa [nthP] using this
theorem cut_p (A : Option Addr) (k c : Nat) (w : World) : (Instr.slice 22 (.slice A (k + 1) c) (some (.int .i64 1)) none none).run Try.prog w = .ok (.slice (cut1 A c 2) k (c - 1)) w := by
  have hs : ∀ w, (sizeOf 53).run Try.prog w = .ok 2 w := fun w => by kernel_rfl
  have gen : ∀ (x : Int) (i : Nat), x = i → i ≤ k + 1 → (Instr.slice 22 (.slice A (k + 1) c) (some (.int .i64 x)) none none).run Try.prog w = .ok (.slice (if c = i then A else A.map (·.add (i * 2))) (k + 1 - i) (c - i)) w := by
    intro x i hx hi
    subst hx
    have h0 : (0 : Int) ≤ (i : Int) := by omega
    have h1'' : (i : Int) ≤ (k : Int) + 1 := by omega
    simp [Instr.slice, run_underlying Try.underlying22, Instr.sliceBounds, run_sliceBound, h0, h1'', hs]
  have := gen 1 1 rfl (by omega)
  rw [show k + 1 - 1 = k by omega, Nat.one_mul] at this
  exact this
theorem PAt.mk {W W' : World} {b o : Nat} {x : Pr} (hb : Below W.heap.size W W') (hlt : b < W.heap.size) (h0 : W.cell? ⟨b, o, none⟩ = some (.string ⟨x.k.toArray⟩)) (h1 : W.cell? ⟨b, o + 1, none⟩ = some (.string ⟨x.v.toArray⟩)) : PAt W' (some ⟨b, o, none⟩) (some x) :=
  ⟨b, o, rfl, Nat.lt_of_lt_of_le hlt hb.size, (hb.cell (p := ⟨b, o, none⟩) hlt).trans h0, (hb.cell (p := ⟨b, o + 1, none⟩) hlt).trans h1⟩
theorem Rch.tail {w : World} {A : Option Addr} {k c : Nat} {a : Ch} {l : List Ch} (h : Rch w A (k + 1) (a :: l)) (hc : k + 1 ≤ c) : Rch w (cut1 A c 5) k l := by
  have := Rd.from_ h 1 c (by omega) hc
  rw [show k + 1 - 1 = k by omega, chs_drop (a :: l) 1] at this
  show Rd w (cut1 A c 5) k 5 (chs l)
  simpa [cut1] using this
theorem Rch.head {w : World} {A : Option Addr} {k : Nat} {a : Ch} {l : List Ch} (h : Rch w A (k + 1) (a :: l)) : ∃ b o, A = some ⟨b, o, none⟩ ∧ b < w.heap.size ∧ w.cell? ⟨b, o, none⟩ = some (.string ⟨a.k.toArray⟩) ∧ w.cell? ⟨b, o + 1, none⟩ = some (.string ⟨a.was.toArray⟩) ∧ w.cell? ⟨b, o + 2, none⟩ = some (.string ⟨a.now.toArray⟩) ∧ w.cell? ⟨b, o + 3, none⟩ = some (.bool a.had) ∧ w.cell? ⟨b, o + 4, none⟩ = some (.bool a.has) := by
  have := h.at_ (k := 0) (by omega)
  simpa [nthC] using this
theorem cut_c (A : Option Addr) (k c : Nat) (w : World) : (Instr.slice 25 (.slice A (k + 1) c) (some (.int .i64 1)) none none).run Try.prog w = .ok (.slice (cut1 A c 5) k (c - 1)) w := by
  have hs : ∀ w, (sizeOf 55).run Try.prog w = .ok 5 w := fun w => by kernel_rfl
  have gen : ∀ (x : Int) (i : Nat), x = i → i ≤ k + 1 → (Instr.slice 25 (.slice A (k + 1) c) (some (.int .i64 x)) none none).run Try.prog w = .ok (.slice (if c = i then A else A.map (·.add (i * 5))) (k + 1 - i) (c - i)) w := by
    intro x i hx hi
    subst hx
    have h0 : (0 : Int) ≤ (i : Int) := by omega
    have h1'' : (i : Int) ≤ (k : Int) + 1 := by omega
    simp [Instr.slice, run_underlying Try.underlying25, Instr.sliceBounds, run_sliceBound, h0, h1'', hs]
  have := gen 1 1 rfl (by omega)
  rw [show k + 1 - 1 = k by omega, Nat.one_mul] at this
  exact this
theorem CAt.mk {W W' : World} {b o : Nat} {x : Ch} (hb : Below W.heap.size W W') (hlt : b < W.heap.size) (h0 : W.cell? ⟨b, o, none⟩ = some (.string ⟨x.k.toArray⟩)) (h1 : W.cell? ⟨b, o + 1, none⟩ = some (.string ⟨x.was.toArray⟩)) (h2 : W.cell? ⟨b, o + 2, none⟩ = some (.string ⟨x.now.toArray⟩)) (h3 : W.cell? ⟨b, o + 3, none⟩ = some (.bool x.had)) (h4 : W.cell? ⟨b, o + 4, none⟩ = some (.bool x.has)) : CAt W' (some ⟨b, o, none⟩) (some x) :=
  ⟨b, o, rfl, Nat.lt_of_lt_of_le hlt hb.size, (hb.cell (p := ⟨b, o, none⟩) hlt).trans h0, (hb.cell (p := ⟨b, o + 1, none⟩) hlt).trans h1, (hb.cell (p := ⟨b, o + 2, none⟩) hlt).trans h2, (hb.cell (p := ⟨b, o + 3, none⟩) hlt).trans h3, (hb.cell (p := ⟨b, o + 4, none⟩) hlt).trans h4⟩
theorem OutC.below {W W' : World} {P : Nat} {O : List Ch} (h : OutC W P O) (hb : Below W.heap.size W W') : OutC W' P O := by
  obtain ⟨B, m, d, h1, h2⟩ := h
  exact ⟨B, m, d, h1.below hb h1.lt, own_below h2 hb⟩
theorem OutP.below {W W' : World} {P : Nat} {O : List Pr} (h : OutP W P O) (hb : Below W.heap.size W W') : OutP W' P O := by
  obtain ⟨B, m, d, h1, h2⟩ := h
  exact ⟨B, m, d, h1.below hb h1.lt, own_below h2 hb⟩
theorem mrg_nn {A B : Type} (ka : A → Sx) (kb : B → Sx) : mrg ka kb [] [] = [] := by rw [mrg]
theorem mrg_an {A B : Type} (ka : A → Sx) (kb : B → Sx) (a : A) (l : List A) : mrg ka kb (a :: l) [] = (some a, none) :: mrg ka kb l [] := by rw [mrg]
theorem mrg_nb {A B : Type} (ka : A → Sx) (kb : B → Sx) (b : B) (l : List B) : mrg ka kb [] (b :: l) = (none, some b) :: mrg ka kb [] l := by rw [mrg]
theorem mrg_lt {A B : Type} (ka : A → Sx) (kb : B → Sx) (a : A) (l : List A) (b : B) (r : List B) (h : Lib.compareBytes (ka a) (kb b) = -1) : mrg ka kb (a :: l) (b :: r) = (some a, none) :: mrg ka kb l (b :: r) := by rw [mrg, if_pos (by omega)]
theorem mrg_eq {A B : Type} (ka : A → Sx) (kb : B → Sx) (a : A) (l : List A) (b : B) (r : List B) (h : Lib.compareBytes (ka a) (kb b) = 0) : mrg ka kb (a :: l) (b :: r) = (some a, some b) :: mrg ka kb l r := by rw [mrg, if_neg (by omega), if_pos h]
theorem mrg_gt {A B : Type} (ka : A → Sx) (kb : B → Sx) (a : A) (l : List A) (b : B) (r : List B) (h : Lib.compareBytes (ka a) (kb b) = 1) : mrg ka kb (a :: l) (b :: r) = (none, some b) :: mrg ka kb (a :: l) r := by rw [mrg, if_neg (by omega), if_neg (by omega)]
def beOk (_ _ : Option Pr) : Bool := true
def beOut (x y : Option Pr) : List Ch := if wholeB (betw x y) then [betw x y] else []
theorem be_len (x y : Option Pr) : (beOut x y).length ≤ 1 := by unfold beOut; split <;> simp
theorem th_len (x y : Option Ch) : (thenOut x y).length ≤ 1 := by
  unfold thenOut
  split <;> first | (split <;> simp) | simp
theorem ap_len (x : Option Pr) (y : Option Ch) : (apOut x y).length ≤ 1 := by
  unfold apOut
  split <;> first | (split <;> simp) | simp
theorem clo30' (P : Nat) (W : World) (Out : List Ch) (x y : Option Pr) (p q : Option Addr) (hP : OutC W P Out) (hl : Out.length ≤ 500) (hx : PAt W p x) (hy : PAt W q y) (hne : x ≠ none ∨ y ≠ none) :
    Calls Try.prog 30 #[.pointer p, .pointer q, .pointer (some ⟨P, 0, none⟩)] W fun e W' => e = .returned (.bool (beOk x y)) ∧ Below P W W' ∧ (beOk x y = true → OutC W' P (Out ++ beOut x y)) :=
  (clo30 P W Out x y p q hP hl hx hy hne).mono fun _ _ ⟨h1, h2, h3⟩ => ⟨h1, h3, fun _ => h2⟩
end Go.Proofs.Ytcmlegpfapomnaa
