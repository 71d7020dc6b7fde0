/- The plain law of deltas: how two rising lists are merged; what is made of two views, of two deltas, is as the document says. No program in sight. -/
import Derived.Test.YtcmlegpfapomnaaDo
import Derived.Test.YtcmlegpfapomnaaDo2
import Derived.Test.YtcmlegpfapomnaaDn
namespace Go.Proofs.Ytcmlegpfapomnaa
open Go.Op (bytesLess)

def rthBad (D E : List Ch) (x : Sx) : Bool := (chg D x).isSome && (chg E x).isSome && (!(((chg D x).getD ch0).now == ((chg E x).getD ch0).was) || (((chg D x).getD ch0).has != ((chg E x).getD ch0).had))
def rth (D E : List Ch) (x : Sx) : List Ch := if (chg D x).isSome = true then (if (chg E x).isSome = true then (if (((chg D x).getD ch0).was == ((chg E x).getD ch0).now && ((chg D x).getD ch0).had == ((chg E x).getD ch0).has) = true then [] else [⟨x, ((chg D x).getD ch0).was, ((chg E x).getD ch0).now, ((chg D x).getD ch0).had, ((chg E x).getD ch0).has⟩]) else [(chg D x).getD ch0]) else [(chg E x).getD ch0]
/-- Two deltas as one, as the document says. -/
def rthn (D E : List Ch) : List Ch × Int := if chk D ≠ 0 then ([], chk D) else if chk E ≠ 0 then ([], chk E) else if (kys (D.map Ch.k) (E.map Ch.k)).any (rthBad D E) = true then ([], 11) else ((kys (D.map Ch.k) (E.map Ch.k)).flatMap (rth D E), 0)
theorem less_eq : ∀ (x y : Sx), bytesLess x y = decide (x < y)
  | [], [] => by simp [bytesLess]
  | _ :: _, [] => by simp [bytesLess]
  | [], _ :: _ => by simp [bytesLess]
  | a :: x, b :: y => by
    rw [bytesLess, less_eq x y]
    simp only [List.cons_lt_cons_iff]
    by_cases h1 : a < b <;> by_cases h2 : a = b <;> by_cases h3 : x < y <;> simp [h1, h2, h3]
def Lt (x y : Sx) : Prop := bytesLess x y = true
theorem lt_self (x : Sx) : ¬ Lt x x := by unfold Lt; rw [less_eq]; simp [List.lt_irrefl]
theorem lt_tr {x y z : Sx} (h : Lt x y) (k : Lt y z) : Lt x z := by
  unfold Lt at *
  rw [less_eq] at *
  simp only [decide_eq_true_eq] at *
  exact List.lt_trans h k
theorem lt_tri (x y : Sx) : Lt x y ∨ x = y ∨ Lt y x := by
  unfold Lt
  simp only [less_eq, decide_eq_true_eq]
  by_cases h : x < y
  · exact .inl h
  · by_cases h2 : y < x
    · exact .inr (.inr h2)
    · exact .inr (.inl (List.le_antisymm (List.not_lt.1 h2) (List.not_lt.1 h)))
theorem lt_no {x y : Sx} (h : Lt x y) : bytesLess y x = false := by
  cases e : bytesLess y x
  · rfl
  · exact absurd (lt_tr h e) (lt_self x)
theorem lt_ne {x y : Sx} (h : Lt x y) : x ≠ y := fun e => lt_self y (by rw [e] at h; exact h)
theorem cmp_less (x y : Sx) : Lib.compareBytes x y = if bytesLess x y = true then -1 else if bytesLess y x = true then 1 else 0 := by
  induction x generalizing y with
  | nil => cases y <;> simp [Lib.compareBytes, bytesLess]
  | cons a x ih =>
    cases y with
    | nil => simp [Lib.compareBytes, bytesLess]
    | cons b y =>
      rw [Lib.compareBytes, bytesLess, bytesLess, ih]
      by_cases h1 : a < b
      · simp [h1]
      · by_cases h2 : b < a
        · have : ¬ a = b := fun e => by rw [e] at h2; exact absurd h2 (by simp)
          simp [h1, h2, this]
        · have e : a = b := by
            have := UInt8.le_antisymm (UInt8.not_lt.1 h2) (UInt8.not_lt.1 h1)
            exact this
          subst e
          simp [h1]
theorem cmp_lt {x y : Sx} (h : Lt x y) : Lib.compareBytes x y = -1 := by rw [cmp_less, if_pos (show bytesLess x y = true from h)]
theorem cmp_gt {x y : Sx} (h : Lt y x) : Lib.compareBytes x y = 1 := by rw [cmp_less, lt_no h, if_neg (by simp), if_pos (show bytesLess y x = true from h)]
theorem cmp_self (x : Sx) : Lib.compareBytes x x = 0 := by
  rw [cmp_less]
  have : bytesLess x x = false := by
    cases e : bytesLess x x
    · rfl
    · exact absurd e (lt_self x)
  simp [this]
/-- Rising, all together. -/
theorem ris_pw : ∀ (l : List Sx), ris l = true ↔ l.Pairwise Lt
  | [] => by simp [ris]
  | [a] => by simp [ris]
  | a :: b :: l => by
    have ih := ris_pw (b :: l)
    rw [ris, Bool.and_eq_true, ih, List.pairwise_cons (l := b :: l)]
    constructor
    · rintro ⟨h1, h2⟩
      refine ⟨fun c hc => ?_, h2⟩
      rcases List.mem_cons.1 hc with rfl | hc
      · exact h1
      · exact lt_tr h1 ((List.pairwise_cons.1 h2).1 c hc)
    · rintro ⟨h1, h2⟩
      exact ⟨h1 b (by simp), h2⟩
section
variable {A B : Type} (ka : A → Sx) (kb : B → Sx)
/-- The one with a key. -/
def look (l : List A) (x : Sx) : Option A := l.find? fun a => ka a == x
theorem look_nil (x : Sx) : look ka [] x = none := rfl
theorem look_cons (a : A) (l : List A) (x : Sx) : look ka (a :: l) x = if ka a = x then some a else look ka l x := by
  unfold look
  rw [List.find?_cons]
  by_cases h : ka a = x
  · simp [h]
  · have e : (ka a == x) = false := by simpa using h
    rw [e, if_neg h]
variable {ka}
theorem look_key {l : List A} {x : Sx} {a : A} (h : look ka l x = some a) : ka a = x := by
  have := List.find?_some h
  simpa using this
theorem look_mem {l : List A} {x : Sx} {a : A} (h : look ka l x = some a) : a ∈ l := List.mem_of_find?_eq_some h
theorem look_none {l : List A} {x : Sx} (h : x ∉ l.map ka) : look ka l x = none := by
  unfold look
  rw [List.find?_eq_none]
  intro a ha e
  exact h (List.mem_map.2 ⟨a, ha, by simpa using e⟩)
theorem look_some {l : List A} {x : Sx} (h : x ∈ l.map ka) : ∃ a, look ka l x = some a := by
  cases e : look ka l x with
  | some a => exact ⟨a, rfl⟩
  | none =>
    unfold look at e
    rw [List.find?_eq_none] at e
    obtain ⟨a, ha, he⟩ := List.mem_map.1 h
    exact absurd (by simpa using he) (e a ha)
theorem look_at {l : List A} (hs : (l.map ka).Pairwise Lt) {a : A} (ha : a ∈ l) : look ka l (ka a) = some a := by
  induction l with
  | nil => simp at ha
  | cons b l ih =>
    rw [List.map_cons, List.pairwise_cons] at hs
    rw [look_cons]
    rcases List.mem_cons.1 ha with rfl | ha
    · simp
    · have := hs.1 _ (List.mem_map.2 ⟨a, ha, rfl⟩)
      rw [if_neg (lt_ne this)]
      exact ih hs.2 ha
theorem look_isSome {l : List A} {x : Sx} : (look ka l x).isSome = true ↔ x ∈ l.map ka := by
  constructor
  · intro h
    obtain ⟨a, ha⟩ := Option.isSome_iff_exists.1 h
    exact List.mem_map.2 ⟨a, look_mem ha, look_key ha⟩
  · intro h
    obtain ⟨a, ha⟩ := look_some h
    rw [ha]; rfl
/-- Two rising lists that answer alike are one. -/
theorem look_ext : ∀ {l m : List A}, (l.map ka).Pairwise Lt → (m.map ka).Pairwise Lt → (∀ x, look ka l x = look ka m x) → l = m
  | [], [], _, _, _ => rfl
  | [], b :: m, _, _, h => by have := h (ka b); rw [look_nil, look_cons, if_pos rfl] at this; cases this
  | a :: l, [], _, _, h => by have := h (ka a); rw [look_nil, look_cons, if_pos rfl] at this; cases this
  | a :: l, b :: m, hl, hm, h => by
    rw [List.map_cons, List.pairwise_cons] at hl hm
    have e : ka a = ka b := by
      rcases lt_tri (ka a) (ka b) with h1 | h1 | h1
      · have h2 := h (ka a)
        rw [look_cons, if_pos rfl, look_cons, if_neg (fun e => lt_ne h1 e.symm)] at h2
        have h3 := hm.1 _ (List.mem_map.2 ⟨a, look_mem h2.symm, rfl⟩)
        exact absurd (lt_tr h1 h3) (lt_self _)
      · exact h1
      · have h2 := h (ka b)
        rw [look_cons, if_neg (fun e => lt_ne h1 e.symm), look_cons, if_pos rfl] at h2
        have h3 := hl.1 _ (List.mem_map.2 ⟨b, look_mem h2, rfl⟩)
        exact absurd (lt_tr h1 h3) (lt_self _)
    have eab : a = b := by
      have h2 := h (ka a)
      rw [look_cons, if_pos rfl, look_cons, if_pos e.symm] at h2
      exact Option.some.inj h2
    subst eab
    rw [look_ext hl.2 hm.2 fun x => ?_]
    by_cases hx : ka a = x
    · rw [look_none (fun hh => by have := hl.1 x hh; exact lt_ne this hx), look_none (fun hh => by have := hm.1 x hh; exact lt_ne this hx)]
    · have h2 := h x
      rwa [look_cons, if_neg hx, look_cons, if_neg hx] at h2
end
theorem strs_ext {l m : List Sx} (hl : l.Pairwise Lt) (hm : m.Pairwise Lt) (h : ∀ x, x ∈ l ↔ x ∈ m) : l = m := by
  refine look_ext (ka := fun x => x) (by simpa using hl) (by simpa using hm) fun x => ?_
  by_cases hx : x ∈ l
  · obtain ⟨a, ha⟩ := look_some (ka := fun x => x) (l := l) (x := x) (by simpa using hx)
    obtain ⟨b, hb⟩ := look_some (ka := fun x => x) (l := m) (x := x) (by simpa using (h x).1 hx)
    have e1 : a = x := look_key ha
    have e2 : b = x := look_key hb
    rw [ha, hb, e1, e2]
  · rw [look_none (by simpa using hx), look_none (by simpa using fun hh => hx ((h x).2 hh))]
/-- The merged keys. -/
theorem kys_mem (x : Sx) : ∀ (a b : List Sx), x ∈ kys a b ↔ x ∈ a ∨ x ∈ b := by
  intro a b
  induction a, b using kys.induct with
  | case1 => simp [kys_nn]
  | case2 a l ih => rw [kys_an]; simp [ih]
  | case3 b l ih => rw [kys_nb]; simp [ih]
  | case4 a l b r h ih => rw [kys_lt _ _ _ _ h]; simp [ih, or_assoc]
  | case5 a l b r h h2 ih => rw [kys_gt _ _ _ _ (by simpa using h) h2]; simp [ih]; constructor <;> rintro (h | h | h) <;> simp [h]
  | case6 a l b r h h2 ih =>
    rw [kys_eq _ _ _ _ (by simpa using h) (by simpa using h2)]
    have e : a = b := by
      rcases lt_tri a b with h3 | h3 | h3
      · exact absurd h3 h
      · exact h3
      · exact absurd h3 h2
    subst e
    simp [ih]
    constructor
    · rintro (h | h | h) <;> simp [h]
    · rintro ((h | h) | h | h) <;> simp [h]
theorem kys_pw : ∀ (a b : List Sx), a.Pairwise Lt → b.Pairwise Lt → (kys a b).Pairwise Lt := by
  intro a b
  induction a, b using kys.induct with
  | case1 => intro _ _; simp [kys_nn]
  | case2 a l ih =>
    intro ha hb
    rw [List.pairwise_cons] at ha
    rw [kys_an, List.pairwise_cons]
    refine ⟨fun x hx => ?_, ih ha.2 hb⟩
    rw [kys_mem] at hx
    rcases hx with hx | hx
    · exact ha.1 x hx
    · simp at hx
  | case3 b l ih =>
    intro ha hb
    rw [List.pairwise_cons] at hb
    rw [kys_nb, List.pairwise_cons]
    refine ⟨fun x hx => ?_, ih ha hb.2⟩
    rw [kys_mem] at hx
    rcases hx with hx | hx
    · simp at hx
    · exact hb.1 x hx
  | case4 a l b r h ih =>
    intro ha hb
    have hb' := hb
    rw [List.pairwise_cons] at ha hb'
    rw [kys_lt _ _ _ _ h, List.pairwise_cons]
    refine ⟨fun x hx => ?_, ih ha.2 hb⟩
    rw [kys_mem] at hx
    rcases hx with hx | hx
    · exact ha.1 x hx
    · rcases List.mem_cons.1 hx with rfl | hx
      · exact h
      · exact lt_tr h (hb'.1 x hx)
  | case5 a l b r h h2 ih =>
    intro ha hb
    have ha' := ha
    rw [List.pairwise_cons] at hb ha'
    rw [kys_gt _ _ _ _ (by simpa using h) h2, List.pairwise_cons]
    refine ⟨fun x hx => ?_, ih ha hb.2⟩
    rw [kys_mem] at hx
    rcases hx with hx | hx
    · rcases List.mem_cons.1 hx with rfl | hx
      · exact h2
      · exact lt_tr h2 (ha'.1 x hx)
    · exact hb.1 x hx
  | case6 a l b r h h2 ih =>
    intro ha hb
    have e : a = b := by
      rcases lt_tri a b with h3 | h3 | h3
      · exact absurd h3 h
      · exact h3
      · exact absurd h3 h2
    subst e
    rw [List.pairwise_cons] at hb ha
    rw [kys_eq _ _ _ _ (by simpa using h) (by simpa using h2), List.pairwise_cons]
    refine ⟨fun x hx => ?_, ih ha.2 hb.2⟩
    rw [kys_mem] at hx
    rcases hx with hx | hx
    · exact ha.1 x hx
    · exact hb.1 x hx
/-- Two rising lists key by key, out of their keys. -/
theorem mrg_keys {A B : Type} (ka : A → Sx) (kb : B → Sx) (l : List A) (m : List B) (hl : (l.map ka).Pairwise Lt) (hm : (m.map kb).Pairwise Lt) :
    mrg ka kb l m = (kys (l.map ka) (m.map kb)).map fun x => (look ka l x, look kb m x) := by
  have far : ∀ {C : Type} (kc : C → Sx) (c : C) (r : List C) (s : List Sx), (∀ x ∈ s, Lt (kc c) x) → ∀ x ∈ s, look kc (c :: r) x = look kc r x := fun kc c r s h x hx => by
    rw [look_cons, if_neg (fun e => lt_ne (h x hx) e)]
  induction l, m using mrg.induct ka kb with
  | case1 => rw [mrg_nn, List.map_nil, List.map_nil, kys_nn]; rfl
  | case2 a l ih =>
    rw [List.map_cons, List.pairwise_cons] at hl
    rw [mrg_an, List.map_cons, List.map_nil, kys_an, List.map_cons, ih hl.2 hm]
    rw [look_cons, if_pos rfl, look_nil]
    congr 1
    rw [List.map_nil]
    refine List.map_congr_left fun x hx => ?_
    rw [kys_mem] at hx
    rw [far ka a l _ hl.1 x (by simpa using hx)]
  | case3 b m ih =>
    rw [List.map_cons, List.pairwise_cons] at hm
    rw [mrg_nb, List.map_cons, List.map_nil, kys_nb, List.map_cons, ih hl hm.2]
    rw [look_cons, if_pos rfl, look_nil]
    congr 1
    rw [List.map_nil]
    refine List.map_congr_left fun x hx => ?_
    rw [kys_mem] at hx
    rw [far kb b m _ hm.1 x (by simpa using hx)]
  | case4 a l b m h ih =>
    have hlt : Lt (ka a) (kb b) := by
      rcases lt_tri (ka a) (kb b) with h1 | h1 | h1
      · exact h1
      · rw [h1, cmp_self] at h; omega
      · rw [cmp_gt h1] at h; omega
    have hm' := hm
    rw [List.map_cons, List.pairwise_cons] at hl hm'
    rw [mrg_lt _ _ _ _ _ _ (cmp_lt hlt), ih hl.2 hm, List.map_cons, List.map_cons, kys_lt _ _ _ _ hlt, List.map_cons]
    congr 1
    · rw [look_cons, if_pos rfl, look_none]
      intro hx
      rw [List.map_cons] at hx
      rcases List.mem_cons.1 hx with e | hx
      · exact lt_ne hlt e
      · exact lt_ne (lt_tr hlt (hm'.1 _ hx)) rfl
    · refine List.map_congr_left fun x hx => ?_
      rw [kys_mem] at hx
      have hx2 : Lt (ka a) x := by
        rcases hx with hx | hx
        · exact hl.1 x hx
        · rcases List.mem_cons.1 hx with rfl | hx
          · exact hlt
          · exact lt_tr hlt (hm'.1 x hx)
      rw [look_cons (ka := ka), if_neg (lt_ne hx2)]
  | case5 a l b m h h2 ih =>
    have e : ka a = kb b := by
      rcases lt_tri (ka a) (kb b) with h1 | h1 | h1
      · rw [cmp_lt h1] at h2; omega
      · exact h1
      · rw [cmp_gt h1] at h2; omega
    rw [List.map_cons, List.pairwise_cons] at hl hm
    have n1 : bytesLess (ka a) (kb b) = false := by rw [e]; cases e2 : bytesLess (kb b) (kb b); rfl; exact absurd e2 (lt_self _)
    have n2 : bytesLess (kb b) (ka a) = false := by rw [e]; cases e2 : bytesLess (kb b) (kb b); rfl; exact absurd e2 (lt_self _)
    rw [mrg_eq _ _ _ _ _ _ h2, ih hl.2 hm.2, List.map_cons, List.map_cons, kys_eq _ _ _ _ n1 n2, List.map_cons]
    congr 1
    · rw [look_cons, if_pos rfl, look_cons, if_pos e.symm]
    · refine List.map_congr_left fun x hx => ?_
      rw [kys_mem] at hx
      have hx2 : Lt (ka a) x := by
        rcases hx with hx | hx
        · exact hl.1 x hx
        · rw [e]; exact hm.1 x hx
      rw [look_cons (ka := ka), if_neg (lt_ne hx2), look_cons (ka := kb), if_neg (by rw [← e]; exact lt_ne hx2)]
  | case6 a l b m h h2 ih =>
    have hgt : Lt (kb b) (ka a) := by
      rcases lt_tri (ka a) (kb b) with h1 | h1 | h1
      · rw [cmp_lt h1] at h; omega
      · rw [h1, cmp_self] at h2; omega
      · exact h1
    have hl' := hl
    rw [List.map_cons, List.pairwise_cons] at hm hl'
    rw [mrg_gt _ _ _ _ _ _ (cmp_gt hgt), ih hl hm.2, List.map_cons, List.map_cons, kys_gt _ _ _ _ (lt_no hgt) hgt, List.map_cons]
    congr 1
    · rw [look_cons (ka := kb), if_pos rfl, look_none]
      intro hx
      rw [List.map_cons] at hx
      rcases List.mem_cons.1 hx with e | hx
      · exact lt_ne hgt e
      · exact lt_ne (lt_tr hgt (hl'.1 _ hx)) rfl
    · refine List.map_congr_left fun x hx => ?_
      rw [kys_mem] at hx
      have hx2 : Lt (kb b) x := by
        rcases hx with hx | hx
        · rcases List.mem_cons.1 hx with rfl | hx
          · exact hgt
          · exact lt_tr hgt (hl'.1 x hx)
        · exact hm.1 x hx
      rw [look_cons (ka := kb), if_neg (lt_ne hx2)]
theorem gath_all {A B C : Type} (ok : A → B → Bool) (out : A → B → List C) : ∀ (l : List (A × B)) (O : List C), gath ok out O l = if (l.all fun z => ok z.1 z.2) = true then some (O ++ l.flatMap fun z => out z.1 z.2) else none
  | [], O => by simp [gath]
  | (x, y) :: l, O => by
    rw [gath, gath_all ok out l, List.all_cons, List.flatMap_cons]
    cases ok x y
    · simp
    · simp only [Bool.true_and, if_true, List.append_assoc]
theorem fnd_look : ∀ (l : List Pr) (x : Sx), fnd l x = (look Pr.k l x).map Pr.v
  | [], x => rfl
  | p :: l, x => by
    rw [fnd, look_cons, fnd_look l x]
    by_cases h : p.k = x <;> simp [h]
theorem chg_look : ∀ (l : List Ch) (x : Sx), chg l x = look Ch.k l x
  | [], x => rfl
  | p :: l, x => by
    rw [chg, look_cons, chg_look l x]
    by_cases h : p.k = x <;> simp [h]
/-- The whole of a list of changes. -/
theorem chk_ok (D : List Ch) : chk D = 0 ↔ (D.map Ch.k).Pairwise Lt ∧ ∀ c ∈ D, wholeB c = true := by
  unfold chk
  rw [← ris_pw]
  cases h : ris (D.map Ch.k)
  · simp
  · cases h2 : D.any badC
    · rw [List.any_eq_false] at h2
      simp
      intro c hc
      have := h2 c hc
      unfold badC at this
      simpa using this
    · rw [List.any_eq_true] at h2
      obtain ⟨c, hc, hb⟩ := h2
      simp
      refine ⟨c, hc, ?_⟩
      unfold badC at hb
      simpa using hb
theorem whole_was {c : Ch} (h : wholeB c = true) (hh : c.had = false) : c.was = [] := by
  unfold wholeB at h
  split at h
  · cases h
  · rename_i hn
    by_cases e : c.was = []
    · exact e
    · exact absurd (.inl ⟨hh, e⟩) hn
theorem whole_now {c : Ch} (h : wholeB c = true) (hh : c.has = false) : c.now = [] := by
  unfold wholeB at h
  split at h
  · cases h
  · rename_i hn
    by_cases e : c.now = []
    · exact e
    · exact absurd (.inr ⟨hh, e⟩) hn
/-- A change that keeps to form is whole just if it changes. -/
theorem whole_iff {c : Ch} (h1 : c.had = false → c.was = []) (h2 : c.has = false → c.now = []) : wholeB c = !(c.was == c.now && c.had == c.has) := by
  unfold wholeB
  rw [if_neg (by rintro (⟨a, b⟩ | ⟨a, b⟩); exact b (h1 a); exact b (h2 a))]
  cases c.had <;> cases c.has <;> cases (c.was == c.now) <;> rfl
theorem flat_congr {A B : Type} {f g : A → List B} {l : List A} (h : ∀ x ∈ l, f x = g x) : l.flatMap f = l.flatMap g := by
  rw [List.flatMap_def, List.flatMap_def, List.map_congr_left h]
section
variable {C : Type} {kc : C → Sx} {K : List Sx} {f : Sx → List C}
theorem flat_keys (hK : K.Pairwise Lt) (hf : ∀ x, f x = [] ∨ ∃ c, f x = [c] ∧ kc c = x) : ((K.flatMap f).map kc).Pairwise Lt ∧ (∀ x ∈ (K.flatMap f).map kc, x ∈ K) := by
  induction K with
  | nil => exact ⟨by simp, by simp⟩
  | cons a K ih =>
    rw [List.pairwise_cons] at hK
    obtain ⟨h1, h2⟩ := ih hK.2
    rw [List.flatMap_cons]
    rcases hf a with e | ⟨c, e, ek⟩
    · rw [e, List.nil_append]
      exact ⟨h1, fun x hx => List.mem_cons_of_mem _ (h2 x hx)⟩
    · rw [e, List.singleton_append, List.map_cons, List.pairwise_cons, ek]
      refine ⟨⟨fun x hx => hK.1 x (h2 x hx), h1⟩, fun x hx => ?_⟩
      rcases List.mem_cons.1 hx with rfl | hx
      · exact List.mem_cons_self
      · exact List.mem_cons_of_mem _ (h2 x hx)
theorem flat_look (hK : K.Pairwise Lt) (hf : ∀ x, f x = [] ∨ ∃ c, f x = [c] ∧ kc c = x) (x : Sx) : look kc (K.flatMap f) x = if x ∈ K then (f x).head? else none := by
  induction K with
  | nil => simp [look_nil]
  | cons a K ih =>
    rw [List.pairwise_cons] at hK
    have ih := ih hK.2
    rw [List.flatMap_cons]
    rcases hf a with e | ⟨c, e, ek⟩
    · rw [e, List.nil_append, ih]
      by_cases hx : x = a
      · subst hx
        have : x ∉ K := fun h => lt_self x (hK.1 x h)
        simp [this, e]
      · simp [hx]
    · rw [e, List.singleton_append, look_cons, ek, ih]
      by_cases hx : a = x
      · subst hx
        simp [e]
      · have hx2 : ¬ x = a := fun h => hx h.symm
        simp [hx, hx2]
end
theorem be_form (a b : List Pr) (x : Sx) (hx : x ∈ a.map Pr.k ∨ x ∈ b.map Pr.k) : betw (look Pr.k a x) (look Pr.k b x) = rbc a b x := by
  unfold rbc
  rw [fnd_look, fnd_look]
  cases ha : look Pr.k a x with
  | none =>
    cases hb : look Pr.k b x with
    | none =>
      rcases hx with hx | hx
      · obtain ⟨c, hc⟩ := look_some hx; rw [hc] at ha; cases ha
      · obtain ⟨c, hc⟩ := look_some hx; rw [hc] at hb; cases hb
    | some q => simp [betw, look_key hb]
  | some p =>
    cases hb : look Pr.k b x with
    | none => simp [betw, look_key ha]
    | some q => simp [betw, look_key hb]
theorem rbc_form (a b : List Pr) (x : Sx) : ((rbc a b x).had = false → (rbc a b x).was = []) ∧ ((rbc a b x).has = false → (rbc a b x).now = []) := by
  unfold rbc
  dsimp only
  constructor
  · intro h; rw [Option.isSome_eq_false_iff, Option.isNone_iff_eq_none] at h; rw [h]; rfl
  · intro h; rw [Option.isSome_eq_false_iff, Option.isNone_iff_eq_none] at h; rw [h]; rfl
theorem be_rbt (a b : List Pr) (x : Sx) (hx : x ∈ a.map Pr.k ∨ x ∈ b.map Pr.k) : beOut (look Pr.k a x) (look Pr.k b x) = rbt a b x := by
  unfold beOut rbt
  rw [be_form a b x hx, whole_iff (rbc_form a b x).1 (rbc_form a b x).2]
  cases ((rbc a b x).was == (rbc a b x).now && (rbc a b x).had == (rbc a b x).has) <;> rfl
/-- How two views part: as the document says. -/
theorem btw_rbtw (a b : List Pr) : btw a b = rbtw a b := by
  unfold btw rbtw
  by_cases h : ris (a.map Pr.k) = true ∧ ris (b.map Pr.k) = true
  · rw [if_pos h, if_pos h, mrg_keys Pr.k Pr.k a b ((ris_pw _).1 h.1) ((ris_pw _).1 h.2), gath_all, if_pos (by simp [beOk])]
    rw [Option.getD_some, List.nil_append, List.flatMap_map]
    refine flat_congr fun x hx => ?_
    exact be_rbt a b x ((kys_mem x _ _).1 hx)
  · rw [if_neg h, if_neg h]
theorem ap_rap (l : List Pr) (D : List Ch) (x : Sx) (hx : x ∈ l.map Pr.k ∨ x ∈ D.map Ch.k) : apOut (look Pr.k l x) (look Ch.k D x) = rap l D x := by
  unfold rap rap1
  rw [chg_look, fnd_look]
  cases hd : look Ch.k D x with
  | none =>
    cases hl : look Pr.k l x with
    | none =>
      rcases hx with hx | hx
      · obtain ⟨c, hc⟩ := look_some hx; rw [hc] at hl; cases hl
      · obtain ⟨c, hc⟩ := look_some hx; rw [hc] at hd; cases hd
    | some p =>
      have := look_key hl
      simp [apOut, ← this]
  | some c =>
    have := look_key hd
    cases hl : look Pr.k l x <;> simp [apOut, ← this]
theorem ap_fits (l : List Pr) (D : List Ch) (hD : (D.map Ch.k).Pairwise Lt) (hw : ∀ c ∈ D, wholeB c = true) :
    ((kys (l.map Pr.k) (D.map Ch.k)).all fun x => apOk (look Pr.k l x) (look Ch.k D x)) = !(D.any (unfit l)) := by
  have one : ∀ c ∈ D, apOk (look Pr.k l c.k) (some c) = !(unfit l c) := by
    intro c hc
    unfold unfit
    rw [fnd_look]
    have hw := hw c hc
    cases hl : look Pr.k l c.k with
    | none =>
      cases hh : c.had
      · simp [apOk, hh, whole_was hw hh]
      · simp [apOk, hh]
    | some p =>
      cases hh : c.had <;> by_cases e : p.v = c.was <;> simp [apOk, hh, e]
  rw [Bool.eq_iff_iff, List.all_eq_true, Bool.not_eq_true', List.any_eq_false]
  constructor
  · intro h c hc
    have := h c.k ((kys_mem _ _ _).2 (.inr (List.mem_map.2 ⟨c, hc, rfl⟩)))
    rw [look_at hD hc, one c hc] at this
    simpa using this
  · intro h x _
    cases hd : look Ch.k D x with
    | none => cases look Pr.k l x <;> rfl
    | some c =>
      have hc := look_mem hd
      have hk := look_key hd
      subst hk
      rw [one c hc]
      simpa using h c hc
/-- Changes made of a view: as the document says. -/
theorem apl_rapl (l : List Pr) (D : List Ch) : apl l D = rapl l D := by
  unfold apl rapl
  by_cases h0 : chk D = 0
  · have z0 : ¬ (chk D ≠ 0) := by rw [h0]; simp
    rw [if_neg z0, if_neg z0]
    cases hr : ris (l.map Pr.k)
    · rfl
    · rw [if_neg (by simp), if_neg (by simp)]
      obtain ⟨h1, h2⟩ := (chk_ok D).1 h0
      rw [mrg_keys Pr.k Ch.k l D ((ris_pw _).1 hr) h1, gath_all, List.all_map]
      have := ap_fits l D h1 h2
      rw [show ((fun z : Option Pr × Option Ch => apOk z.1 z.2) ∘ fun x => (look Pr.k l x, look Ch.k D x)) = fun x => apOk (look Pr.k l x) (look Ch.k D x) from rfl, this]
      cases D.any (unfit l)
      · rw [if_pos (by rfl), if_neg (by simp)]
        simp only [List.nil_append, List.flatMap_map]
        congr 1
        exact flat_congr fun x hx => ap_rap l D x ((kys_mem x _ _).1 hx)
      · rw [if_neg (by simp), if_pos rfl]
  · rw [if_pos h0, if_pos h0]
theorem th_rth (D E : List Ch) (x : Sx) (hx : x ∈ D.map Ch.k ∨ x ∈ E.map Ch.k) (hD : ∀ c ∈ D, wholeB c = true) (hE : ∀ c ∈ E, wholeB c = true) : thenOut (look Ch.k D x) (look Ch.k E x) = rth D E x := by
  unfold rth
  rw [chg_look, chg_look]
  cases hd : look Ch.k D x with
  | none =>
    cases he : look Ch.k E x with
    | none =>
      rcases hx with hx | hx
      · obtain ⟨c, hc⟩ := look_some hx; rw [hc] at hd; cases hd
      · obtain ⟨c, hc⟩ := look_some hx; rw [hc] at he; cases he
    | some e => simp [thenOut]
  | some c =>
    have hk := look_key hd
    cases he : look Ch.k E x with
    | none => simp [thenOut]
    | some e =>
      have w1 := whole_iff (c := ⟨c.k, c.was, e.now, c.had, e.has⟩) (fun hh => whole_was (c := c) (hD c (look_mem hd)) hh) (fun hh => whole_now (c := e) (hE e (look_mem he)) hh)
      simp only [thenOut, w1, Option.getD_some, Option.isSome_some, if_true]
      rw [hk]
      cases (c.was == e.now && c.had == e.has) <;> rfl
theorem th_fits (D E : List Ch) : ((kys (D.map Ch.k) (E.map Ch.k)).all fun x => thenOk (look Ch.k D x) (look Ch.k E x)) = !((kys (D.map Ch.k) (E.map Ch.k)).any (rthBad D E)) := by
  rw [List.not_any_eq_all_not]
  congr 1
  funext x
  unfold rthBad
  rw [chg_look, chg_look]
  cases look Ch.k D x with
  | none => cases look Ch.k E x <;> rfl
  | some c =>
    cases look Ch.k E x with
    | none => rfl
    | some e => 
      simp only [thenOk, Option.getD_some, Option.isSome_some]
      cases c.now == e.was <;> cases c.has <;> cases e.had <;> rfl
/-- Two deltas as one: as the document says. -/
theorem thn_rthn (D E : List Ch) : thn D E = rthn D E := by
  unfold thn rthn
  by_cases h0 : chk D = 0
  · have z0 : ¬ (chk D ≠ 0) := by rw [h0]; simp
    rw [if_neg z0, if_neg z0]
    by_cases h3 : chk E = 0
    · have z3 : ¬ (chk E ≠ 0) := by rw [h3]; simp
      rw [if_neg z3, if_neg z3]
      obtain ⟨h1, h2⟩ := (chk_ok D).1 h0
      obtain ⟨h4, h5⟩ := (chk_ok E).1 h3
      rw [mrg_keys Ch.k Ch.k D E h1 h4, gath_all, List.all_map]
      rw [show ((fun z : Option Ch × Option Ch => thenOk z.1 z.2) ∘ fun x => (look Ch.k D x, look Ch.k E x)) = fun x => thenOk (look Ch.k D x) (look Ch.k E x) from rfl, th_fits]
      cases (kys (D.map Ch.k) (E.map Ch.k)).any (rthBad D E)
      · rw [if_pos (by rfl), if_neg (by simp)]
        simp only [List.nil_append, List.flatMap_map]
        congr 1
        exact flat_congr fun x hx => th_rth D E x ((kys_mem x _ _).1 hx) h2 h5
      · rw [if_neg (by simp), if_pos rfl]
    · rw [if_pos h3, if_pos h3]
  · rw [if_pos h0, if_pos h0]
/-- What became of a key between two views. -/
def dif (v w : Option Sx) (x : Sx) : Option Ch := if v = w then none else some ⟨x, v.getD [], w.getD [], v.isSome, w.isSome⟩
theorem rbt_dif (a b : List Pr) (x : Sx) : rbt a b x = (dif (fnd a x) (fnd b x) x).toList := by
  unfold rbt rbc dif
  dsimp only
  cases fnd a x with
  | none =>
    cases fnd b x with
    | none => simp
    | some w => simp
  | some v =>
    cases fnd b x with
    | none => simp
    | some w =>
      by_cases h : v = w <;> simp [h]
theorem toList_form {C : Type} (kc : C → Sx) (f : Sx → Option C) (h : ∀ x c, f x = some c → kc c = x) (x : Sx) : (f x).toList = [] ∨ ∃ c, (f x).toList = [c] ∧ kc c = x := by
  cases e : f x with
  | none => exact .inl rfl
  | some c => exact .inr ⟨c, rfl, h x c e⟩
theorem dif_key {v w : Option Sx} {x : Sx} {c : Ch} (h : dif v w x = some c) : c.k = x := by
  unfold dif at h
  split at h
  · cases h
  · injection h with h; rw [← h]
theorem dif_same (v : Option Sx) (x : Sx) : dif v v x = none := by unfold dif; rw [if_pos rfl]
theorem fnd_no {l : List Pr} {x : Sx} (h : x ∉ l.map Pr.k) : fnd l x = none := by rw [fnd_look, look_none h]; rfl
/-- A view: its keys rise. -/
def Vw (l : List Pr) : Prop := (l.map Pr.k).Pairwise Lt
/-- A delta. -/
def Dl (D : List Ch) : Prop := (D.map Ch.k).Pairwise Lt ∧ ∀ c ∈ D, wholeB c = true
theorem vw_ris {l : List Pr} (h : ris (l.map Pr.k) = true) : Vw l := (ris_pw _).1 h
theorem Dl.chk {D : List Ch} (h : Dl D) : chk D = 0 := (chk_ok D).2 h
theorem pr_ext {l m : List Pr} (hl : Vw l) (hm : Vw m) (h : ∀ x, fnd l x = fnd m x) : l = m := by
  refine look_ext hl hm fun x => ?_
  have := h x
  rw [fnd_look, fnd_look] at this
  cases e1 : look Pr.k l x with
  | none => rw [e1] at this; cases e2 : look Pr.k m x with
    | none => rfl
    | some q => rw [e2] at this; cases this
  | some p =>
    rw [e1] at this
    cases e2 : look Pr.k m x with
    | none => rw [e2] at this; cases this
    | some q =>
      rw [e2] at this
      have hv : p.v = q.v := by simpa using this
      have hk : p.k = q.k := by rw [look_key e1, look_key e2]
      congr 1
      cases p; cases q
      simp_all
theorem ch_ext {l m : List Ch} (hl : Dl l) (hm : Dl m) (h : ∀ x, chg l x = chg m x) : l = m :=
  look_ext hl.1 hm.1 fun x => by rw [← chg_look, ← chg_look]; exact h x
theorem btw_flat {a b : List Pr} (ha : Vw a) (hb : Vw b) : btw a b = (kys (a.map Pr.k) (b.map Pr.k)).flatMap fun x => (dif (fnd a x) (fnd b x) x).toList := by
  rw [btw_rbtw, rbtw, if_pos ⟨(ris_pw _).2 ha, (ris_pw _).2 hb⟩]
  exact flat_congr fun x _ => rbt_dif a b x
theorem btw_look {a b : List Pr} (ha : Vw a) (hb : Vw b) (x : Sx) : chg (btw a b) x = dif (fnd a x) (fnd b x) x := by
  rw [chg_look, btw_flat ha hb, flat_look (kys_pw _ _ ha hb) (toList_form Ch.k _ fun x c h => dif_key h)]
  split
  · cases dif (fnd a x) (fnd b x) x <;> rfl
  · rename_i hx
    rw [kys_mem] at hx
    rw [fnd_no (fun h => hx (.inl h)), fnd_no (fun h => hx (.inr h)), dif_same]
theorem dif_whole {v w : Option Sx} {x : Sx} {c : Ch} (h : dif v w x = some c) : wholeB c = true := by
  unfold dif at h
  split at h
  · cases h
  · rename_i hne
    injection h with h
    rw [← h, whole_iff (by cases v <;> simp) (by cases w <;> simp)]
    cases v <;> cases w <;> simp at hne ⊢
    exact hne
theorem btw_delta {a b : List Pr} (ha : Vw a) (hb : Vw b) : Dl (btw a b) := by
  have h1 : ((btw a b).map Ch.k).Pairwise Lt := by
    rw [btw_flat ha hb]
    exact (flat_keys (kys_pw _ _ ha hb) (toList_form Ch.k _ fun x c h => dif_key h)).1
  refine ⟨h1, fun c hc => ?_⟩
  have e := btw_look ha hb c.k
  rw [chg_look, look_at h1 hc] at e
  exact dif_whole e.symm
/-- A key's value behind a change. -/
def aft (v : Option Sx) : Option Ch → Option Sx
  | none => v
  | some c => if c.has = true then some c.now else none
/-- Does a change fit a key's value? -/
def fits (v : Option Sx) (c : Ch) : Prop := v.isSome = c.had ∧ v.getD [] = c.was
theorem apl_ok {a : List Pr} {D : List Ch} (ha : Vw a) (hD : Dl D) (hf : ∀ x c, chg D x = some c → fits (fnd a x) c) :
    ∃ o, apl a D = (o, 0) ∧ Vw o ∧ ∀ x, fnd o x = aft (fnd a x) (chg D x) := by
  have hK := kys_pw _ _ ha hD.1
  have form : ∀ x, rap a D x = [] ∨ ∃ c, rap a D x = [c] ∧ Pr.k c = x := fun x => by
    unfold rap
    split
    · exact .inr ⟨_, rfl, rfl⟩
    · exact .inl rfl
  refine ⟨(kys (a.map Pr.k) (D.map Ch.k)).flatMap (rap a D), ?_, (flat_keys hK form).1, fun x => ?_⟩
  · have z0 : ¬ (chk D ≠ 0) := by rw [hD.chk]; simp
    have no : D.any (unfit a) = false := by
      rw [List.any_eq_false]
      intro c hc
      have := hf c.k c (by rw [chg_look]; exact look_at hD.1 hc)
      unfold unfit
      rw [this.1, this.2]
      simp
    rw [apl_rapl, rapl, if_neg z0, (ris_pw _).2 ha, if_neg (by simp), no, if_neg (by simp)]
  · rw [fnd_look, flat_look hK form]
    by_cases hx : x ∈ kys (a.map Pr.k) (D.map Ch.k)
    · rw [if_pos hx]
      unfold rap rap1 aft
      cases chg D x with
      | none => cases fnd a x <;> simp
      | some c => cases hh : c.has <;> simp [hh]
    · rw [if_neg hx]
      rw [kys_mem] at hx
      have n1 : chg D x = none := by rw [chg_look, look_none (fun h => hx (.inr h))]
      rw [n1, fnd_no (fun h => hx (.inl h))]
      rfl
/-- Two changes of a key as one. -/
def both (x : Sx) : Option Ch → Option Ch → Option Ch
  | none, e => e
  | some d, none => some d
  | some d, some e => if (d.was == e.now && d.had == e.has) = true then none else some ⟨x, d.was, e.now, d.had, e.has⟩
theorem both_two (x : Sx) (d e : Ch) : both x (some d) (some e) = if (d.was == e.now && d.had == e.has) = true then none else some ⟨x, d.was, e.now, d.had, e.has⟩ := rfl
theorem chg_key {D : List Ch} {x : Sx} {c : Ch} (h : chg D x = some c) : c.k = x := by rw [chg_look] at h; exact look_key h
theorem chg_in {D : List Ch} {x : Sx} {c : Ch} (h : chg D x = some c) : c ∈ D := by rw [chg_look] at h; exact look_mem h
theorem rth_both (D E : List Ch) (x : Sx) (hx : x ∈ D.map Ch.k ∨ x ∈ E.map Ch.k) : rth D E x = (both x (chg D x) (chg E x)).toList := by
  unfold rth
  cases hd : chg D x with
  | none =>
    cases he : chg E x with
    | none =>
      rcases hx with hx | hx
      · obtain ⟨c, hc⟩ := look_some hx; rw [← chg_look] at hc; rw [hc] at hd; cases hd
      · obtain ⟨c, hc⟩ := look_some hx; rw [← chg_look] at hc; rw [hc] at he; cases he
    | some e => simp [both]
  | some d =>
    cases he : chg E x with
    | none => simp [both]
    | some e =>
      simp only [both, Option.getD_some, Option.isSome_some, if_true]
      cases (d.was == e.now && d.had == e.has) <;> rfl
theorem both_key {D E : List Ch} {x : Sx} {c : Ch} (h : both x (chg D x) (chg E x) = some c) : c.k = x := by
  cases hd : chg D x with
  | none => rw [hd] at h; exact chg_key h
  | some d =>
    rw [hd] at h
    cases he : chg E x with
    | none => rw [he] at h; injection h with h; rw [← h]; exact chg_key hd
    | some e =>
      rw [he, both_two] at h
      split at h
      · cases h
      · injection h with h; rw [← h]
theorem both_whole {D E : List Ch} (hD : Dl D) (hE : Dl E) {x : Sx} {c : Ch} (h : both x (chg D x) (chg E x) = some c) : wholeB c = true := by
  cases hd : chg D x with
  | none => rw [hd] at h; exact hE.2 c (chg_in h)
  | some d =>
    rw [hd] at h
    cases he : chg E x with
    | none => rw [he] at h; injection h with h; rw [← h]; exact hD.2 d (chg_in hd)
    | some e =>
      rw [he, both_two] at h
      split at h
      · cases h
      · rename_i hn
        injection h with h
        rw [← h, whole_iff (c := ⟨x, d.was, e.now, d.had, e.has⟩) (fun hh => whole_was (c := d) (hD.2 d (chg_in hd)) hh) (fun hh => whole_now (c := e) (hE.2 e (chg_in he)) hh)]
        show (!(d.was == e.now && d.had == e.has)) = true
        rw [Bool.eq_false_iff.2 hn]
        rfl
theorem thn_ok {D E : List Ch} (hD : Dl D) (hE : Dl E) (hf : ∀ x d e, chg D x = some d → chg E x = some e → d.now = e.was ∧ d.has = e.had) :
    ∃ o, thn D E = (o, 0) ∧ Dl o ∧ ∀ x, chg o x = both x (chg D x) (chg E x) := by
  have hK := kys_pw _ _ hD.1 hE.1
  have form := toList_form Ch.k (fun x => both x (chg D x) (chg E x)) (fun x c h => both_key h)
  have hl : ∀ x, chg ((kys (D.map Ch.k) (E.map Ch.k)).flatMap fun x => (both x (chg D x) (chg E x)).toList) x = both x (chg D x) (chg E x) := fun x => by
    rw [chg_look, flat_look hK form]
    split
    · cases both x (chg D x) (chg E x) <;> rfl
    · rename_i hx
      rw [kys_mem] at hx
      have n1 : chg D x = none := by rw [chg_look, look_none (fun h => hx (.inl h))]
      have n2 : chg E x = none := by rw [chg_look, look_none (fun h => hx (.inr h))]
      rw [n1, n2]; rfl
  refine ⟨(kys (D.map Ch.k) (E.map Ch.k)).flatMap fun x => (both x (chg D x) (chg E x)).toList, ?_, ⟨(flat_keys hK form).1, fun c hc => ?_⟩, hl⟩
  · have z0 : ¬ (chk D ≠ 0) := by rw [hD.chk]; simp
    have z1 : ¬ (chk E ≠ 0) := by rw [hE.chk]; simp
    have no : (kys (D.map Ch.k) (E.map Ch.k)).any (rthBad D E) = false := by
      rw [List.any_eq_false]
      intro x _
      unfold rthBad
      cases hd : chg D x with
      | none => simp
      | some d =>
        cases he : chg E x with
        | none => simp
        | some e =>
          obtain ⟨h1, h2⟩ := hf x d e hd he
          simp [h1, h2]
    rw [thn_rthn, rthn, if_neg z0, if_neg z1, no, if_neg (by simp)]
    congr 1
    exact flat_congr fun x hx => rth_both D E x ((kys_mem x _ _).1 hx)
  · have h2 := hl c.k
    rw [chg_look, look_at (flat_keys hK form).1 hc] at h2
    exact both_whole hD hE h2.symm
theorem turn_keys (D : List Ch) : (D.map turn1).map Ch.k = D.map Ch.k := by rw [List.map_map]; rfl
theorem turn_look (D : List Ch) (x : Sx) : chg (D.map turn1) x = (chg D x).map turn1 := by
  induction D with
  | nil => rfl
  | cons c D ih =>
    rw [List.map_cons, chg, chg, ih]
    show (if (c.k == x) = true then _ else _) = _
    by_cases h : (c.k == x) = true
    · rw [if_pos h, if_pos h]; rfl
    · rw [if_neg h, if_neg h]
theorem turn_whole (c : Ch) : wholeB (turn1 c) = wholeB c := by
  obtain ⟨k, a, b, p, q⟩ := c
  unfold wholeB turn1
  dsimp only
  have e : (b == a) = (a == b) := by rw [Bool.eq_iff_iff]; simp only [beq_iff_eq]; exact ⟨Eq.symm, Eq.symm⟩
  rw [e]
  by_cases h1 : (p = false ∧ a ≠ []) ∨ (q = false ∧ b ≠ [])
  · rw [if_pos h1, if_pos (h1.symm)]
  · rw [if_neg h1, if_neg (fun h => h1 h.symm)]
    cases p <;> cases q <;> rfl
theorem Dl.turn {D : List Ch} (h : Dl D) : Dl (D.map turn1) := by
  refine ⟨by rw [turn_keys]; exact h.1, fun c hc => ?_⟩
  obtain ⟨d, hd, rfl⟩ := List.mem_map.1 hc
  rw [turn_whole]
  exact h.2 d hd
theorem dif_fits {v w : Option Sx} {x : Sx} {c : Ch} (h : dif v w x = some c) : fits v c ∧ fits w (turn1 c) ∧ aft v (some c) = w ∧ aft w (some (turn1 c)) = v := by
  unfold dif at h
  split at h
  · cases h
  · injection h with h
    rw [← h]
    refine ⟨⟨rfl, rfl⟩, ⟨rfl, rfl⟩, ?_, ?_⟩
    · cases w <;> rfl
    · cases v <;> rfl
theorem dif_aft (v w : Option Sx) (x : Sx) : aft v (dif v w x) = w := by
  cases e : dif v w x with
  | none =>
    unfold dif at e
    split at e
    · rename_i h; exact h
    · cases e
  | some c => exact (dif_fits e).2.2.1
theorem dif_turn (v w : Option Sx) (x : Sx) : (dif v w x).map turn1 = dif w v x := by
  unfold dif
  by_cases h : v = w
  · rw [if_pos h, if_pos h.symm]; rfl
  · rw [if_neg h, if_neg (fun e => h e.symm)]; rfl
/-- A delta of one view to another makes the other. -/
theorem apl_btw {a b : List Pr} (ha : Vw a) (hb : Vw b) : apl a (btw a b) = (b, 0) := by
  obtain ⟨o, e, ho, hx⟩ := apl_ok ha (btw_delta ha hb) (fun x c h => by rw [btw_look ha hb] at h; exact (dif_fits h).1)
  rw [e]
  congr 1
  refine pr_ext ho hb fun x => ?_
  rw [hx, btw_look ha hb, dif_aft]
theorem turn_btw {a b : List Pr} (ha : Vw a) (hb : Vw b) : (btw a b).map turn1 = btw b a := by
  refine ch_ext (btw_delta ha hb).turn (btw_delta hb ha) fun x => ?_
  rw [turn_look, btw_look ha hb, btw_look hb ha, dif_turn]
theorem btw_self {a : List Pr} (ha : Vw a) : btw a a = [] := by
  refine ch_ext (btw_delta ha ha) ⟨by simp, by simp⟩ fun x => ?_
  rw [btw_look ha ha, dif_same]
  rfl
theorem dif_both (u v w : Option Sx) (x : Sx) : both x (dif u v x) (dif v w x) = dif u w x := by
  by_cases h1 : u = v
  · subst h1; rw [dif_same]; rfl
  · by_cases h2 : v = w
    · subst h2; rw [dif_same]; unfold dif; rw [if_neg h1]; rfl
    · unfold dif
      rw [if_neg h1, if_neg h2]
      unfold both
      dsimp only
      cases u <;> cases w <;> simp
theorem thn_btw {a b c : List Pr} (ha : Vw a) (hb : Vw b) (hc : Vw c) : thn (btw a b) (btw b c) = (btw a c, 0) := by
  obtain ⟨o, e, ho, hx⟩ := thn_ok (btw_delta ha hb) (btw_delta hb hc) (fun x d e h1 h2 => by
    rw [btw_look ha hb] at h1
    rw [btw_look hb hc] at h2
    have f1 := (dif_fits h1).2.1
    have f2 := (dif_fits h2).1
    exact ⟨by rw [← f2.2]; exact f1.2.symm, by rw [← f2.1]; exact f1.1.symm⟩)
  rw [e]
  congr 1
  refine ch_ext ho (btw_delta ha hc) fun x => ?_
  rw [hx, btw_look ha hb, btw_look hb hc, btw_look ha hc, dif_both]
/-- As many clash, whichever comes first. -/
theorem cls_len {D E : List Ch} (hD : Dl D) (hE : Dl E) : (cls D E).length = (cls E D).length := by
  have : cls D E = cls E D := by
    refine strs_ext (hD.1.filter _) (hE.1.filter _) fun x => ?_
    unfold cls
    rw [List.mem_filter, List.mem_filter, chg_mem, chg_mem]
    simp only [decide_eq_true_eq]
    exact And.comm
  rw [this]
/-- Two deltas of a view that do not clash: the same either way. -/
theorem apart {a b c : List Pr} (ha : Vw a) (hb : Vw b) (hc : Vw c) (hno : cls (btw a b) (btw a c) = []) :
    ∃ o t, apl b (btw a c) = (o, 0) ∧ apl c (btw a b) = (o, 0) ∧ thn (btw a b) (btw a c) = (t, 0) ∧ apl a t = (o, 0) := by
  have one : ∀ x, chg (btw a b) x = none ∨ chg (btw a c) x = none := fun x => by
    cases h1 : chg (btw a b) x with
    | none => exact .inl rfl
    | some d =>
      refine .inr ?_
      cases h2 : chg (btw a c) x with
      | none => rfl
      | some e =>
        have : x ∈ cls (btw a b) (btw a c) := by
          unfold cls
          rw [List.mem_filter]
          exact ⟨List.mem_map.2 ⟨d, chg_in h1, chg_key h1⟩, by rw [h2]; rfl⟩
        rw [hno] at this
        simp at this
  have lb := fun x => btw_look ha hb x
  have lc := fun x => btw_look ha hc x
  have sb : ∀ x, chg (btw a b) x = none → fnd b x = fnd a x := fun x h => by
    have := dif_aft (fnd a x) (fnd b x) x
    rw [← lb, h] at this
    exact this.symm
  have sc : ∀ x, chg (btw a c) x = none → fnd c x = fnd a x := fun x h => by
    have := dif_aft (fnd a x) (fnd c x) x
    rw [← lc, h] at this
    exact this.symm
  obtain ⟨o, e1, v1, x1⟩ := apl_ok hb (btw_delta ha hc) (fun x d h => by
    rcases one x with h2 | h2
    · rw [sb x h2]; rw [lc] at h; exact (dif_fits h).1
    · rw [h] at h2; cases h2)
  obtain ⟨p, e2, v2, x2⟩ := apl_ok hc (btw_delta ha hb) (fun x d h => by
    rcases one x with h2 | h2
    · rw [h] at h2; cases h2
    · rw [sc x h2]; rw [lb] at h; exact (dif_fits h).1)
  obtain ⟨t, e3, v3, x3⟩ := thn_ok (btw_delta ha hb) (btw_delta ha hc) (fun x d e h1 h2 => by
    rcases one x with h | h
    · rw [h1] at h; cases h
    · rw [h2] at h; cases h)
  obtain ⟨q, e4, v4, x4⟩ := apl_ok ha v3 (fun x d h => by
    rw [x3] at h
    rcases one x with h2 | h2
    · rw [h2] at h; have h : chg (btw a c) x = some d := h; rw [lc] at h; exact (dif_fits h).1
    · rw [h2] at h
      cases h5 : chg (btw a b) x with
      | none => rw [h5] at h; cases h
      | some d2 =>
        rw [h5] at h
        have h : some d2 = some d := h
        injection h with h
        rw [← h]
        rw [lb] at h5
        exact (dif_fits h5).1)
  have eop : o = p := pr_ext v1 v2 fun x => by
    rw [x1, x2]
    rcases one x with h | h
    · rw [h, sb x h]
      show aft (fnd a x) (chg (btw a c) x) = fnd c x
      rw [lc, dif_aft]
    · rw [h, sc x h]
      show fnd b x = aft (fnd a x) (chg (btw a b) x)
      rw [lb, dif_aft]
  have eoq : o = q := pr_ext v1 v4 fun x => by
    rw [x1, x4, x3]
    rcases one x with h | h
    · rw [h, sb x h]; rfl
    · rw [h]
      cases h5 : chg (btw a b) x with
      | none => rw [sb x h5]; rfl
      | some d =>
        show fnd b x = aft (fnd a x) (some d)
        rw [← h5, lb, dif_aft]
  refine ⟨o, t, e1, by rw [eop]; exact e2, e3, by rw [eoq]; exact e4⟩
end Go.Proofs.Ytcmlegpfapomnaa
