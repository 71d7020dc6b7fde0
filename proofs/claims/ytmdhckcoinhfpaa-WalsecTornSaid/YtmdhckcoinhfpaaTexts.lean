/- Plain laws on texts and the sectors that they go into. No program is named. -/
import Derived.Test.YtmdhckcoinhfpaaMath
namespace Go.Proofs.Ytmdhckcoinhfpaa

abbrev Tx := List UInt8
def cost (s : Tx) : Nat := 1 + min s.length 238
def costs (l : List Tx) : Nat := (l.map cost).sum
theorem costs_cons (s : Tx) (l : List Tx) : costs (s :: l) = cost s + costs l := by simp [costs]
theorem costs_app (a b : List Tx) : costs (a ++ b) = costs a + costs b := by simp [costs]
theorem cost_pos (s : Tx) : 1 ≤ cost s ∧ cost s ≤ 239 := by unfold cost; omega
theorem costs_one (s : Tx) : costs [s] = cost s := by simp [costs]
/-- How many texts go behind what a part has. -/
def grp (u : Nat) : List Tx → Nat
  | [] => 0
  | s :: r => if u + cost s ≤ 239 then grp (u + cost s) r + 1 else 0
theorem grp_le : ∀ (l : List Tx) (u : Nat), grp u l ≤ l.length
  | [], _ => Nat.le_refl _
  | s :: r, u => by
    unfold grp
    split
    · have := grp_le r (u + cost s); simp; omega
    · simp
theorem grp_pos {l : List Tx} (h : l ≠ []) : 0 < grp 0 l := by
  match l, h with
  | s :: r, _ =>
    have := cost_pos s
    unfold grp
    rw [if_pos (by omega)]
    omega
theorem grp_fits : ∀ (l : List Tx) (u : Nat), u ≤ 239 → u + costs (l.take (grp u l)) ≤ 239
  | [], u, h => by simpa [grp, costs] using h
  | s :: r, u, h => by
    unfold grp
    by_cases h1 : u + cost s ≤ 239
    · rw [if_pos h1, List.take_succ_cons, costs_cons]
      have := grp_fits r (u + cost s) h1
      omega
    · rw [if_neg h1]
      simpa [costs] using h
theorem grp_all : ∀ (l : List Tx) (u : Nat), u + costs l ≤ 239 → grp u l = l.length
  | [], _, _ => rfl
  | s :: r, u, h => by
    rw [costs_cons] at h
    unfold grp
    rw [if_pos (by omega), grp_all r _ (by omega)]
    rfl
/-- Behind a group that does not take all, whatever comes behind changes nothing. -/
theorem grp_snoc_lt : ∀ (l : List Tx) (u : Nat) (m : List Tx), grp u l < l.length → grp u (l ++ m) = grp u l
  | [], _, _, h => absurd h (by simp)
  | s :: r, u, m, h => by
    unfold grp at h ⊢
    rw [List.cons_append]
    by_cases h1 : u + cost s ≤ 239
    · rw [if_pos h1] at h
      simp only [h1, if_true]
      rw [grp_snoc_lt r _ m (by simpa using h)]
    · simp only [h1, if_false]
theorem grp_snoc_all : ∀ (l : List Tx) (u : Nat) (s : Tx), grp u l = l.length → grp u (l ++ [s]) = if u + costs l + cost s ≤ 239 then l.length + 1 else l.length
  | [], u, s, _ => by
    simp [grp, costs]
  | x :: r, u, s, h => by
    unfold grp at h
    by_cases h1 : u + cost x ≤ 239
    · rw [if_pos h1] at h
      have ih := grp_snoc_all r (u + cost x) s (by simpa using h)
      rw [List.cons_append]
      unfold grp
      rw [if_pos h1, ih, costs_cons, ← Nat.add_assoc]
      split <;> rfl
    · rw [if_neg h1] at h
      simp at h

/-- Texts, sector by sector. -/
def pieces (l : List Tx) : List (List Tx) :=
  if _h : l = [] then [] else l.take (grp 0 l) :: pieces (l.drop (grp 0 l))
termination_by l.length
decreasing_by
  have h : l ≠ [] := _h
  have := grp_pos h
  have := grp_le l 0
  have : 0 < l.length := List.length_pos_iff.2 h
  rw [List.length_drop]
  omega
theorem pieces_nil : pieces [] = [] := by rw [pieces]; simp
theorem pieces_cons {l : List Tx} (h : l ≠ []) : pieces l = l.take (grp 0 l) :: pieces (l.drop (grp 0 l)) := by rw [pieces, dif_neg h]
theorem pieces_ind {p : List Tx → Prop} (h0 : p []) (h1 : ∀ l, l ≠ [] → p (l.drop (grp 0 l)) → p l) : ∀ l, p l := by
  have main : ∀ n (l : List Tx), l.length ≤ n → p l := by
    intro n
    induction n with
    | zero =>
      intro l hl
      have : l = [] := List.eq_nil_of_length_eq_zero (by omega)
      subst this
      exact h0
    | succ n ih =>
      intro l hl
      by_cases h : l = []
      · subst h; exact h0
      · have := grp_pos h
        exact h1 l h (ih _ (by rw [List.length_drop]; omega))
  exact fun l => main _ l (Nat.le_refl _)
theorem pieces_flat (l : List Tx) : (pieces l).flatten = l := by
  refine pieces_ind (p := fun l => (pieces l).flatten = l) (by rw [pieces_nil]; rfl) (fun l h ih => ?_) l
  rw [pieces_cons h, List.flatten_cons, ih, List.take_append_drop]
theorem pieces_ok (l : List Tx) : ∀ p ∈ pieces l, p ≠ [] ∧ costs p ≤ 239 := by
  refine pieces_ind (p := fun l => ∀ p ∈ pieces l, p ≠ [] ∧ costs p ≤ 239) (by rw [pieces_nil]; simp) (fun l h ih => ?_) l
  rw [pieces_cons h]
  intro p hp
  rcases List.mem_cons.1 hp with rfl | hp
  · have h1 := grp_fits l 0 (by omega)
    refine ⟨fun e => ?_, by omega⟩
    have h2 := grp_pos h
    have h3 := grp_le l 0
    have := congrArg List.length e
    rw [List.length_take, List.length_nil] at this
    omega
  · exact ih p hp
def parts (l : List Tx) : Nat := (pieces l).length
theorem parts_nil : parts [] = 0 := by unfold parts; rw [pieces_nil]; rfl
theorem parts_cons {l : List Tx} (h : l ≠ []) : parts l = parts (l.drop (grp 0 l)) + 1 := by unfold parts; rw [pieces_cons h]; rfl
theorem parts_le (l : List Tx) : parts l ≤ l.length := by
  refine pieces_ind (p := fun l => parts l ≤ l.length) (by rw [parts_nil]; exact Nat.le_refl _) (fun l h ih => ?_) l
  rw [parts_cons h]
  have := grp_pos h
  have : 0 < l.length := List.length_pos_iff.2 h
  rw [List.length_drop] at ih
  omega
theorem pieces_one {l : List Tx} (h : l ≠ []) (hc : costs l ≤ 239) : pieces l = [l] := by
  rw [pieces_cons h, grp_all l 0 (by omega), List.take_length, List.drop_length, pieces_nil]
theorem parts_one (l : List Tx) : parts l = 1 ↔ l ≠ [] ∧ costs l ≤ 239 := by
  constructor
  · intro h
    have hne : l ≠ [] := fun e => by rw [e, parts_nil] at h; omega
    refine ⟨hne, ?_⟩
    match hp : pieces l with
    | [] => unfold parts at h; rw [hp] at h; simp at h
    | [p] =>
      have h1 := pieces_flat l
      rw [hp] at h1
      have h2 := pieces_ok l p (by rw [hp]; simp)
      rw [← h1]
      simpa using h2.2
    | p :: q :: r => unfold parts at h; rw [hp] at h; simp at h
  · intro ⟨h, hc⟩
    unfold parts; rw [pieces_one h hc]; rfl
/-- One text more at the end: into the last sector, or into one of its own. -/
theorem pieces_snoc (s : Tx) (l : List Tx) : ∀ (P : List (List Tx)) (g : List Tx), pieces l = P ++ [g] → pieces (l ++ [s]) = if costs g + cost s ≤ 239 then P ++ [g ++ [s]] else P ++ [g] ++ [[s]] := by
  refine pieces_ind (p := fun l => ∀ (P : List (List Tx)) (g : List Tx), pieces l = P ++ [g] → pieces (l ++ [s]) = if costs g + cost s ≤ 239 then P ++ [g ++ [s]] else P ++ [g] ++ [[s]]) ?_ (fun l h ih => ?_) l
  · intro P g h
    rw [pieces_nil] at h
    simp at h
  · intro P g hp
    have hk := grp_le l 0
    rcases Nat.lt_or_ge (grp 0 l) l.length with h1 | h1
    · have hd : l.drop (grp 0 l) ≠ [] := fun e => by have := congrArg List.length e; rw [List.length_drop] at this; simp at this; omega
      rw [pieces_cons h] at hp
      have hdc := pieces_cons hd
      match P, hp with
      | [], hp =>
        simp at hp
        rw [hdc] at hp
        simp at hp
      | q :: P', hp =>
        simp only [List.cons_append, List.cons.injEq] at hp
        have := ih P' g hp.2
        rw [pieces_cons (by simp), grp_snoc_lt l 0 [s] h1, List.take_append_of_le_length hk, List.drop_append_of_le_length hk, this, hp.1]
        split <;> simp
    · have hl : grp 0 l = l.length := by omega
      rw [pieces_cons h, hl, List.take_length, List.drop_length, pieces_nil] at hp
      have hPg : P = [] ∧ g = l := by
        match P, hp with
        | [], hp => simp at hp; exact ⟨rfl, hp.symm⟩
        | q :: P', hp => simp at hp
      obtain ⟨rfl, rfl⟩ := hPg
      have hs := grp_snoc_all g 0 s hl
      rw [Nat.zero_add] at hs
      rw [pieces_cons (by simp), hs]
      split
      · rw [List.take_of_length_le (by simp), List.drop_of_length_le (by simp), pieces_nil]
        simp
      · rw [List.take_left' rfl, List.drop_left' rfl]
        have hc : costs [s] ≤ 239 := by rw [costs_one]; exact (cost_pos s).2
        rw [pieces_one (by simp) hc]
        simp
theorem pieces_first (s : Tx) : pieces [s] = [[s]] := pieces_one (by simp) (by rw [costs_one]; exact (cost_pos s).2)

/-- Texts as bytes: each behind its length. -/
def body (l : List Tx) : List UInt8 := l.flatMap fun s => UInt8.ofNat s.length :: s
theorem body_cons (s : Tx) (l : List Tx) : body (s :: l) = UInt8.ofNat s.length :: (s ++ body l) := by simp [body]
theorem body_app (a b : List Tx) : body (a ++ b) = body a ++ body b := by simp [body]
theorem body_one (s : Tx) : body [s] = UInt8.ofNat s.length :: s := by simp [body]
theorem body_length : ∀ (l : List Tx), (∀ s ∈ l, s.length ≤ 238) → (body l).length = costs l
  | [], _ => rfl
  | s :: r, h => by
    have h1 := h s (by simp)
    rw [body_cons, costs_cons, List.length_cons, List.length_append, body_length r (fun x hx => h x (by simp [hx]))]
    unfold cost
    omega
theorem body_nil_of {l : List Tx} (h : (body l).length = 0) : l = [] := by
  match l with
  | [] => rfl
  | s :: r => rw [body_cons] at h; simp at h
/-- What begins as the bytes of texts is of texts that begin so. -/
theorem body_prefix : ∀ (a l : List Tx) (r : List UInt8), (∀ s ∈ a, s.length ≤ 238) → (∀ s ∈ l, s.length ≤ 238) → body a ++ r = body l → ∃ c, l = a ++ c ∧ r = body c
  | [], l, r, _, _, h => ⟨l, rfl, h⟩
  | s :: a, [], r, _, _, h => by rw [body_cons] at h; simp [body] at h
  | s :: a, x :: l, r, ha, hl, h => by
    have h1 := ha s (by simp)
    have h2 := hl x (by simp)
    rw [body_cons, body_cons, List.cons_append, List.append_assoc] at h
    injection h with e1 e2
    have e3 := congrArg UInt8.toNat e1
    simp only [UInt8.toNat_ofNat'] at e3
    have hlen : s.length = x.length := by omega
    obtain ⟨e4, e5⟩ := List.append_inj e2 hlen
    obtain ⟨c, hc1, hc2⟩ := body_prefix a l r (fun y hy => ha y (by simp [hy])) (fun y hy => hl y (by simp [hy])) e5
    exact ⟨c, by rw [e4, hc1]; rfl, hc2⟩
def zeros8 (n : Nat) : List UInt8 := List.replicate n 0
/-- A sector of texts. -/
def layB (n : Nat) (l : List Tx) : List UInt8 := be8 n ++ [UInt8.ofNat (body l).length] ++ body l ++ zeros8 (239 - (body l).length) ++ be8 n
theorem layB_length (n : Nat) (l : List Tx) (h : (body l).length ≤ 239) : (layB n l).length = 256 := by
  simp [layB, be8_length, zeros8]; omega
/-- Bytes are the sector of texts. -/
def isSec (n : Nat) (b : List UInt8) (l : List Tx) : Prop := l ≠ [] ∧ (∀ s ∈ l, s.length ≤ 238) ∧ costs l ≤ 239 ∧ layB n l = b
theorem layB_take (n : Nat) (l : List Tx) : (layB n l).take 8 = be8 n := by
  unfold layB
  rw [List.append_assoc, List.append_assoc, List.append_assoc]
  exact List.take_left' (by rw [be8_length])
theorem layB_drop (n : Nat) (l : List Tx) (h : (body l).length ≤ 239) : (layB n l).drop 248 = be8 n := by
  unfold layB
  exact List.drop_left' (by simp [be8_length, zeros8]; omega)
theorem layB_at8 (n : Nat) (l : List Tx) : (layB n l).getD 8 0 = UInt8.ofNat (body l).length := by
  unfold layB
  rw [List.append_assoc, List.append_assoc, List.append_assoc]
  simp [List.getD, be8]
theorem layB_part (n : Nat) (l : List Tx) (m : Nat) (hm : m = (body l).length) : ((layB n l).drop 9).take m = body l := by
  subst hm
  have : (layB n l).drop 9 = body l ++ (zeros8 (239 - (body l).length) ++ be8 n) := by
    unfold layB
    rw [List.append_assoc, List.append_assoc]
    exact List.drop_left' (by simp [be8_length])
  rw [this]
  exact List.take_left' rfl
theorem isSec.len {n : Nat} {b : List UInt8} {l : List Tx} (h : isSec n b l) : (body l).length ≤ 239 ∧ b.length = 256 ∧ (body l).length = costs l := by
  obtain ⟨_, h2, h3, rfl⟩ := h
  have := body_length l h2
  exact ⟨by omega, layB_length n l (by omega), this⟩
theorem isSec.at8 {n : Nat} {b : List UInt8} {l : List Tx} (h : isSec n b l) : (b.getD 8 0).toNat = (body l).length ∧ min (b.getD 8 0).toNat 239 = (body l).length := by
  have h1 := h.len
  obtain ⟨_, _, _, rfl⟩ := h
  rw [layB_at8, UInt8.toNat_ofNat']
  omega
/-- The bytes of its texts. -/
theorem isSec.part {n : Nat} {b : List UInt8} {l : List Tx} (h : isSec n b l) : (b.drop 9).take (min (b.getD 8 0).toNat 239) = body l := by
  have h1 := h.at8
  obtain ⟨_, _, _, rfl⟩ := h
  exact layB_part n l _ h1.2
theorem isSec.unique {n : Nat} {b : List UInt8} {l m : List Tx} (h : isSec n b l) (h' : isSec n b m) : l = m := by
  have e := h.part.symm.trans h'.part
  obtain ⟨c, hc, hb⟩ := body_prefix l m [] h.2.1 h'.2.1 (by rw [List.append_nil]; exact e)
  have : c = [] := body_nil_of (by rw [← hb]; rfl)
  rw [hc, this, List.append_nil]
/-- Which number stands at a sector's ends. -/
def secN (epoch at' : Int) : Nat := (256 * epoch + at').toNat
def secOk (epoch at' : Int) : Prop := 1 ≤ epoch ∧ epoch ≤ 1099511627776 ∧ 0 ≤ at' ∧ at' < 256
open Classical in
/-- What a sector is read as. -/
noncomputable def readS (b : List UInt8) (epoch at' : Int) : List Tx × Bool :=
  if h : secOk epoch at' ∧ ∃ l, isSec (secN epoch at') b l then (choose h.2, true) else ([], false)
theorem readS_yes {b : List UInt8} {epoch at' : Int} {l : List Tx} (h : secOk epoch at') (hl : isSec (secN epoch at') b l) : readS b epoch at' = (l, true) := by
  have hh : secOk epoch at' ∧ ∃ l, isSec (secN epoch at') b l := ⟨h, l, hl⟩
  unfold readS
  rw [dif_pos hh]
  rw [(Classical.choose_spec hh.2).unique hl]
theorem readS_no {b : List UInt8} {epoch at' : Int} (h : secOk epoch at' → ∀ l, ¬ isSec (secN epoch at') b l) : readS b epoch at' = ([], false) := by
  unfold readS
  rw [dif_neg (fun hh => let ⟨l, hl⟩ := hh.2; h hh.1 l hl)]

end Go.Proofs.Ytmdhckcoinhfpaa
