/-
  Plain lists of whole numbers: rising lists, insertion, what is reached in a finite graph. No program in sight.
-/
import Derived.Test.YtcidmkcicagpaaaGreatFw11
namespace Go.Fw

/-- insertion into a rising list, once -/
def putF : List Int → Int → List Int
  | [], x => [x]
  | y :: l, x => if y ≥ x then (if y > x then x :: y :: l else y :: l) else y :: putF l x
def Asc (l : List Int) : Prop := l.Pairwise (· < ·)
theorem mem_putF {a x : Int} : ∀ {l : List Int}, a ∈ putF l x ↔ a ∈ l ∨ a = x
  | [] => by simp [putF]
  | y :: l => by
    unfold putF
    split
    · split
      · simp only [List.mem_cons]
        constructor
        · rintro (h | h | h)
          · exact .inr h
          · exact .inl (.inl h)
          · exact .inl (.inr h)
        · rintro ((h | h) | h)
          · exact .inr (.inl h)
          · exact .inr (.inr h)
          · exact .inl h
      · have hy : y = x := by omega
        subst hy
        simp only [List.mem_cons]
        constructor
        · exact .inl
        · rintro (h | h)
          · exact h
          · exact .inl h
    · simp only [List.mem_cons, mem_putF (l := l)]
      constructor
      · rintro (h | h | h)
        · exact .inl (.inl h)
        · exact .inl (.inr h)
        · exact .inr h
      · rintro ((h | h) | h)
        · exact .inl h
        · exact .inr (.inl h)
        · exact .inr (.inr h)
theorem asc_putF {x : Int} : ∀ {l : List Int}, Asc l → Asc (putF l x)
  | [], _ => by simp [putF, Asc]
  | y :: l, h => by
    have h' := List.pairwise_cons.1 h
    unfold putF
    split
    · split
      · refine List.pairwise_cons.2 ⟨fun a ha => ?_, h⟩
        rcases List.mem_cons.1 ha with rfl | ha
        · omega
        · have := h'.1 a ha; omega
      · exact h
    · refine List.pairwise_cons.2 ⟨fun a ha => ?_, asc_putF h'.2⟩
      rcases mem_putF.1 ha with ha | rfl
      · exact h'.1 a ha
      · omega
theorem putF_mem {x : Int} : ∀ {l : List Int}, Asc l → x ∈ l → putF l x = l
  | [], _, h => by simp at h
  | y :: l, h, hx => by
    have h' := List.pairwise_cons.1 h
    unfold putF
    rcases List.mem_cons.1 hx with rfl | hx
    · rw [if_pos (by omega), if_neg (by omega)]
    · have := h'.1 x hx
      rw [if_neg (by omega), putF_mem h'.2 hx]
theorem len_putF {x : Int} : ∀ {l : List Int}, Asc l → x ∉ l → (putF l x).length = l.length + 1
  | [], _, _ => rfl
  | y :: l, h, hx => by
    have h' := List.pairwise_cons.1 h
    have hne : y ≠ x := fun e => hx (by simp [e])
    unfold putF
    split
    · rw [if_pos (by omega)]; simp
    · have := len_putF h'.2 (x := x) (fun k => hx (List.mem_cons_of_mem _ k))
      simp [this]
theorem len_putF_le {x : Int} : ∀ (l : List Int), l.length ≤ (putF l x).length ∧ (putF l x).length ≤ l.length + 1
  | [] => by simp [putF]
  | y :: l => by
    unfold putF
    have := len_putF_le (x := x) l
    split
    · split <;> simp
    · simp only [List.length_cons]; omega
/-- Two rising lists with the same members are one list. -/
theorem asc_ext : ∀ {l m : List Int}, Asc l → Asc m → (∀ a, a ∈ l ↔ a ∈ m) → l = m
  | [], [], _, _, _ => rfl
  | [], y :: m, _, _, h => absurd ((h y).2 (by simp)) (by simp)
  | x :: l, [], _, _, h => absurd ((h x).1 (by simp)) (by simp)
  | x :: l, y :: m, hl, hm, h => by
    have hl' := List.pairwise_cons.1 hl
    have hm' := List.pairwise_cons.1 hm
    have hxy : x = y := by
      rcases List.mem_cons.1 ((h x).1 (by simp)) with e | e
      · exact e
      · rcases List.mem_cons.1 ((h y).2 (by simp)) with e' | e'
        · exact e'.symm
        · have := hm'.1 x e; have := hl'.1 y e'; omega
    subst hxy
    rw [asc_ext hl'.2 hm'.2 fun a => ?_]
    constructor
    · intro ha
      rcases List.mem_cons.1 ((h a).1 (by simp [ha])) with e | e
      · have := hl'.1 a ha; omega
      · exact e
    · intro ha
      rcases List.mem_cons.1 ((h a).2 (by simp [ha])) with e | e
      · have := hm'.1 a ha; omega
      · exact e
theorem asc_nodup {l : List Int} (h : Asc l) : l.Nodup := List.Pairwise.imp (fun h => by omega) h
/-- numbers below n, each once: at most n of them -/
theorem nodup_len {n : Nat} : ∀ {l : List Int}, l.Nodup → (∀ a ∈ l, 0 ≤ a ∧ a < n) → l.length ≤ n := by
  induction n with
  | zero =>
    intro l _ h
    cases l with
    | nil => simp
    | cons a l => have := h a (by simp); omega
  | succ n ih =>
    intro l hd h
    have h1 : (l.filter fun a => decide (a ≠ (n : Int))).length ≤ n := ih (hd.filter _) fun a ha => by
      simp only [List.mem_filter, decide_eq_true_eq] at ha
      have := h a ha.1
      omega
    have h2 : ∀ (l : List Int), l.Nodup → l.length ≤ (l.filter fun a => decide (a ≠ (n : Int))).length + 1 := by
      intro l
      induction l with
      | nil => simp
      | cons a l ih =>
        intro hd
        have hd' := List.nodup_cons.1 hd
        by_cases ha : a = (n : Int)
        · have : (l.filter fun a => decide (a ≠ (n : Int))) = l := List.filter_eq_self.2 fun b hb => by
            simp only [decide_eq_true_eq]; rintro rfl; exact hd'.1 (ha ▸ hb)
          rw [List.filter_cons, if_neg (by simp [ha]), this]; simp
        · have := ih hd'.2
          rw [List.filter_cons, if_pos (by simp [ha]), List.length_cons, List.length_cons]; omega
    have := h2 l hd
    omega

/-- i comes to j -/
inductive Rch (u : Int → List Int) : Int → Int → Prop
  | refl (i : Int) : Rch u i i
  | step {i j k : Int} (h : j ∈ u i) (t : Rch u j k) : Rch u i k
theorem Rch.trans {u : Int → List Int} {i j k : Int} (h : Rch u i j) (h' : Rch u j k) : Rch u i k := by
  induction h with
  | refl => exact h'
  | step h _ ih => exact .step h (ih h')
theorem Rch.last {u : Int → List Int} {i j k : Int} (h : Rch u i j) (h' : k ∈ u j) : Rch u i k := h.trans (.step h' (.refl _))
/-- one definition's turn, a round, some rounds -/
def stepR (u : Int → List Int) (out : List Int) (i : Int) : List Int := (u i).foldl (fun o d => if d ∈ o then putF o i else o) out
def roundR (u : Int → List Int) : Nat → List Int → List Int
  | 0, out => out
  | n + 1, out => stepR u (roundR u n out) n
def roundsR (u : Int → List Int) (n : Nat) : Nat → List Int → List Int
  | 0, out => out
  | r + 1, out => roundR u n (roundsR u n r out)
section
variable {u : Int → List Int} {at' : Int} {n : Nat}
theorem fold_step (i : Int) : ∀ (l : List Int) (o : List Int), Asc o → Asc (l.foldl (fun o d => if d ∈ o then putF o i else o) o) ∧ (∀ a ∈ o, a ∈ l.foldl (fun o d => if d ∈ o then putF o i else o) o) ∧
    (∀ a ∈ l.foldl (fun o d => if d ∈ o then putF o i else o) o, a ∈ o ∨ a = i) ∧ ((∃ d ∈ l, d ∈ o) → i ∈ l.foldl (fun o d => if d ∈ o then putF o i else o) o) ∧ (i ∈ l.foldl (fun o d => if d ∈ o then putF o i else o) o → i ∈ o ∨ ∃ d ∈ l, d ∈ o) ∧
    o.length ≤ (l.foldl (fun o d => if d ∈ o then putF o i else o) o).length
  | [], o, h => ⟨h, fun a ha => ha, fun a ha => .inl ha, by simp, fun ha => .inl ha, Nat.le_refl _⟩
  | d :: l, o, h => by
    by_cases hd : d ∈ o
    · obtain ⟨h1, h2, h3, h4, h5, h6⟩ := fold_step i l (putF o i) (asc_putF h)
      simp only [List.foldl_cons, if_pos hd]
      refine ⟨h1, fun a ha => h2 a (mem_putF.2 (.inl ha)), fun a ha => ?_, fun _ => h2 i (mem_putF.2 (.inr rfl)), fun _ => .inr ⟨d, by simp, hd⟩, Nat.le_trans (len_putF_le o).1 h6⟩
      rcases h3 a ha with k | k
      · exact mem_putF.1 k
      · exact .inr k
    · obtain ⟨h1, h2, h3, h4, h5, h6⟩ := fold_step i l o h
      simp only [List.foldl_cons, if_neg hd]
      refine ⟨h1, h2, h3, ?_, fun k => ?_, h6⟩
      · rintro ⟨d', hm, ho⟩
        rcases List.mem_cons.1 hm with rfl | hm
        · exact absurd ho hd
        · exact h4 ⟨d', hm, ho⟩
      · rcases h5 k with k | ⟨d', k1, k2⟩
        · exact .inl k
        · exact .inr ⟨d', by simp [k1], k2⟩
theorem fold_same (i : Int) : ∀ (l : List Int) (o : List Int), Asc o → ((∃ d ∈ l, d ∈ o) → i ∈ o) → l.foldl (fun o d => if d ∈ o then putF o i else o) o = o
  | [], o, _, _ => rfl
  | d :: l, o, h, k => by
    by_cases hd : d ∈ o
    · simp only [List.foldl_cons, if_pos hd]
      rw [putF_mem h (k ⟨d, by simp, hd⟩)]
      exact fold_same i l o h fun ⟨d', h1, h2⟩ => k ⟨d', by simp [h1], h2⟩
    · simp only [List.foldl_cons, if_neg hd]
      exact fold_same i l o h fun ⟨d', h1, h2⟩ => k ⟨d', by simp [h1], h2⟩
/-- what holds of the list at each time -/
def GoodR (u : Int → List Int) (at' : Int) (n : Nat) (o : List Int) : Prop := Asc o ∧ at' ∈ o ∧ ∀ a ∈ o, (0 ≤ a ∧ a < n) ∧ Rch u a at'
theorem good_step {o : List Int} {i : Nat} (h : GoodR u at' n o) (hi : i < n) : GoodR u at' n (stepR u o i) := by
  obtain ⟨h1, h2, h3, h4, h5, h6⟩ := fold_step (i : Int) (u i) o h.1
  refine ⟨h1, h2 _ h.2.1, fun a ha => ?_⟩
  by_cases hao : a ∈ o
  · exact h.2.2 a hao
  · rcases h3 a ha with k | rfl
    · exact absurd k hao
    · rcases h5 ha with k | ⟨d, k1, k2⟩
      · exact absurd k hao
      · exact ⟨by omega, .step k1 (h.2.2 d k2).2⟩
theorem good_round {o : List Int} : ∀ (m : Nat), m ≤ n → GoodR u at' n o → GoodR u at' n (roundR u m o)
  | 0, _, h => h
  | m + 1, hm, h => good_step (good_round m (by omega) h) (by omega)
theorem good_rounds {o : List Int} : ∀ (r : Nat), GoodR u at' n o → GoodR u at' n (roundsR u n r o)
  | 0, h => h
  | r + 1, h => good_round n (Nat.le_refl _) (good_rounds r h)
def ClosedR (u : Int → List Int) (n : Nat) (o : List Int) : Prop := ∀ i : Int, 0 ≤ i → i < n → (∃ d ∈ u i, d ∈ o) → i ∈ o
theorem closed_step {o : List Int} {i : Nat} (ho : Asc o) (hc : ClosedR u n o) (hi : i < n) : stepR u o i = o := fold_same _ _ _ ho fun k => hc i (by omega) (by omega) k
theorem closed_round {o : List Int} (ho : Asc o) (hc : ClosedR u n o) : ∀ m, m ≤ n → roundR u m o = o
  | 0, _ => rfl
  | m + 1, hm => by rw [roundR, closed_round ho hc m (by omega), closed_step ho hc (by omega)]
theorem asc_round {o : List Int} (ho : Asc o) : ∀ m, Asc (roundR u m o) ∧ o.length ≤ (roundR u m o).length ∧ ∀ a ∈ o, a ∈ roundR u m o
  | 0 => ⟨ho, Nat.le_refl _, fun a ha => ha⟩
  | m + 1 => by
    obtain ⟨h1, h2, h3⟩ := asc_round ho m
    obtain ⟨k1, k2, k3, k4, k5, k6⟩ := fold_step (m : Int) (u m) (roundR u m o) h1
    exact ⟨k1, Nat.le_trans h2 k6, fun a ha => k2 a (h3 a ha)⟩
/-- A list of whole numbers that is in another one, as long as it. -/
theorem sub_len {l m : List Int} (hl : Asc l) (hm : Asc m) (hs : ∀ a ∈ l, a ∈ m) (h : m.length ≤ l.length) : l = m := by
  have key : ∀ (l m : List Int), l.Nodup → (∀ a ∈ l, a ∈ m) → m.length ≤ l.length → ∀ a ∈ m, a ∈ l := by
    intro l
    induction l with
    | nil => intro m _ _ h a ha; cases m with | nil => exact ha | cons => simp at h
    | cons x l ih =>
      intro m hd hs h a ha
      have hd' := List.nodup_cons.1 hd
      have hx : x ∈ m := hs x (by simp)
      by_cases hax : a = x
      · simp [hax]
      · have := ih (m.erase x) hd'.2 (fun b hb => (List.mem_erase_of_ne (fun e => hd'.1 (by rw [← e]; exact hb))).2 (hs b (by simp [hb]))) (by rw [List.length_erase_of_mem hx]; simp at h; omega) a ((List.mem_erase_of_ne hax).2 ha)
        simp [this]
  exact asc_ext hl hm fun a => ⟨hs a, key l m (asc_nodup hl) hs h a⟩
theorem round_grow {o : List Int} (ho : Asc o) (h : (roundR u n o).length ≤ o.length) : ClosedR u n o := by
  have same : ∀ m, m ≤ n → roundR u m o = o := by
    intro m hm
    have mono : ∀ k, (roundR u m o).length ≤ (roundR u (m + k) o).length := by
      intro k
      induction k with
      | zero => exact Nat.le_refl _
      | succ k ih =>
        obtain ⟨k1, k2, k3, k4, k5, k6⟩ := fold_step ((m + k : Nat) : Int) (u (m + k : Nat)) (roundR u (m + k) o) (asc_round ho _).1
        exact Nat.le_trans ih k6
    have := mono (n - m)
    rw [show m + (n - m) = n by omega] at this
    obtain ⟨h1, h2, h3⟩ := asc_round (u := u) ho m
    exact (sub_len ho h1 h3 (by omega)).symm
  intro i h0 hi hd
  obtain ⟨k, rfl⟩ : ∃ k : Nat, i = (k : Int) := ⟨i.toNat, by omega⟩
  have e1 := same (k + 1) (by omega)
  rw [roundR, same k (by omega)] at e1
  have := (fold_step (k : Int) (u k) o ho).2.2.2.1 hd
  rw [show (u k).foldl (fun o d => if d ∈ o then putF o k else o) o = o from e1] at this
  exact this
theorem rounds_closed {o : List Int} (h : GoodR u at' n o) : ClosedR u n (roundsR u n n o) := by
  have key : ∀ r, r + 1 ≤ (roundsR u n r o).length ∨ ClosedR u n (roundsR u n r o) := by
    intro r
    induction r with
    | zero =>
      left
      have := List.length_pos_of_mem h.2.1
      simp only [roundsR]; omega
    | succ r ih =>
      have hg := good_rounds (u := u) (n := n) r h
      rcases ih with ih | ih
      · by_cases hc : ClosedR u n (roundsR u n r o)
        · right; rw [roundsR, closed_round hg.1 hc n (Nat.le_refl _)]; exact hc
        · left
          have : ¬ (roundR u n (roundsR u n r o)).length ≤ (roundsR u n r o).length := fun k => hc (round_grow hg.1 k)
          rw [roundsR]; omega
      · right; rw [roundsR, closed_round hg.1 ih n (Nat.le_refl _)]; exact ih
  rcases key n with k | k
  · have hg := good_rounds (u := u) (n := n) n h
    have := nodup_len (n := n) (asc_nodup hg.1) fun a ha => (hg.2.2 a ha).1
    omega
  · exact k
open Classical in
/-- those below n that come to one of them -/
noncomputable def toL (u : Int → List Int) (n : Nat) (k : Int) : List Int := ((List.range n).map Int.ofNat).filter fun i => decide (Rch u i k)
open Classical in
/-- those below n to which one of them comes -/
noncomputable def fromL (u : Int → List Int) (n : Nat) (k : Int) : List Int := ((List.range n).map Int.ofNat).filter fun i => decide (Rch u k i)
theorem asc_range : ∀ n : Nat, Asc ((List.range n).map Int.ofNat) := fun n => by
  unfold Asc
  rw [List.pairwise_map]
  exact List.pairwise_lt_range.imp fun h => by simpa using h
theorem mem_range_int {n : Nat} {a : Int} : a ∈ (List.range n).map Int.ofNat ↔ 0 ≤ a ∧ a < n := by
  simp only [List.mem_map, List.mem_range]
  constructor
  · rintro ⟨k, hk, rfl⟩
    exact ⟨Int.natCast_nonneg k, by simpa using hk⟩
  · rintro ⟨h0, h1⟩
    exact ⟨a.toNat, by omega, by simp [Int.toNat_of_nonneg h0]⟩
theorem asc_toL (k : Int) : Asc (toL u n k) := List.Pairwise.filter _ (asc_range n)
theorem asc_fromL (k : Int) : Asc (fromL u n k) := List.Pairwise.filter _ (asc_range n)
open Classical in
theorem mem_toL {a k : Int} : a ∈ toL u n k ↔ (0 ≤ a ∧ a < n) ∧ Rch u a k := by
  unfold toL; rw [List.mem_filter, mem_range_int, decide_eq_true_eq]
open Classical in
theorem mem_fromL {a k : Int} : a ∈ fromL u n k ↔ (0 ≤ a ∧ a < n) ∧ Rch u k a := by
  unfold fromL; rw [List.mem_filter, mem_range_int, decide_eq_true_eq]
/-- The rounds find what comes to a number. -/
theorem rounds_eq (h0 : 0 ≤ at') (h1 : at' < n) (hu : ∀ i : Int, 0 ≤ i → i < n → ∀ d ∈ u i, 0 ≤ d ∧ d < n) : roundsR u n n [at'] = toL u n at' := by
  have hg : GoodR u at' n [at'] := ⟨by simp [Asc], by simp, fun a ha => by simp at ha; subst ha; exact ⟨⟨h0, h1⟩, .refl _⟩⟩
  have hgn := good_rounds (u := u) (n := n) n hg
  have hcl := rounds_closed hg
  refine asc_ext hgn.1 (asc_toL _) fun a => ⟨fun ha => mem_toL.2 (hgn.2.2 a ha), fun ha => ?_⟩
  obtain ⟨hb, hr⟩ := mem_toL.1 ha
  clear ha
  have key : ∀ a b, Rch u a b → b = at' → 0 ≤ a ∧ a < n → a ∈ roundsR u n n [at'] := by
    intro a b hr
    induction hr with
    | refl => rintro rfl _; exact hgn.2.1
    | step h _ ih => rintro e hb; exact hcl _ hb.1 hb.2 ⟨_, h, ih e (hu _ hb.1 hb.2 _ h)⟩
  exact key a at' hr rfl hb
/-- A list that is closed ahead has all that is reached. -/
theorem ahead_eq {k : Int} {l : List Int} (hk : k ∈ l) (hb : ∀ a ∈ l, 0 ≤ a ∧ a < n) (hr : ∀ a ∈ l, Rch u k a) (hc : ∀ a ∈ l, ∀ d ∈ u a, d ∈ l) (a : Int) : a ∈ l ↔ a ∈ fromL u n k := by
  refine ⟨fun ha => mem_fromL.2 ⟨hb a ha, hr a ha⟩, fun ha => ?_⟩
  have key : ∀ b a, Rch u b a → b ∈ l → a ∈ l := by
    intro b a h
    induction h with
    | refl => exact fun h => h
    | step h _ ih => exact fun hb => ih (hc _ hb _ h)
  exact key k a (mem_fromL.1 ha).2 hk
end
/-! ### Sorting -/
def Srt (l : List Int) : Prop := l.Pairwise (· ≤ ·)
theorem srt_perm : ∀ {l m : List Int}, Srt l → Srt m → l.Perm m → l = m
  | [], m, _, _, h => (List.nil_perm.1 h).symm
  | x :: l, [], _, _, h => absurd h.length_eq (by simp)
  | x :: l, y :: m, hl, hm, h => by
    have hl' := List.pairwise_cons.1 hl
    have hm' := List.pairwise_cons.1 hm
    have hxy : x = y := by
      have h1 : x ≤ y := by
        rcases List.mem_cons.1 (h.mem_iff.2 (show y ∈ y :: m by simp)) with e | e
        · omega
        · exact hl'.1 y e
      have h2 : y ≤ x := by
        rcases List.mem_cons.1 (h.mem_iff.1 (show x ∈ x :: l by simp)) with e | e
        · omega
        · exact hm'.1 x e
      omega
    subst hxy
    rw [srt_perm hl'.2 hm'.2 (List.perm_cons x |>.1 h)]
/-- a sorted list, and its members in order -/
noncomputable def srtF (l : List Int) : List Int := l.mergeSort fun a b => decide (a ≤ b)
theorem srtF_srt (l : List Int) : Srt (srtF l) := by
  have := List.pairwise_mergeSort (le := fun a b : Int => decide (a ≤ b)) (fun a b c h1 h2 => by simp at *; omega) (fun a b => by simp; omega) l
  exact this.imp fun h => by simpa using h
theorem srtF_perm (l : List Int) : (srtF l).Perm l := List.mergeSort_perm l _
theorem srtF_eq {l m : List Int} (h : Srt m) (hp : m.Perm l) : srtF l = m := srt_perm (srtF_srt l) h ((srtF_perm l).trans hp.symm)
theorem srtF_asc {l m : List Int} (hl : l.Nodup) (hm : Asc m) (h : ∀ a, a ∈ l ↔ a ∈ m) : srtF l = m := by
  have hnd : (srtF l).Nodup := (srtF_perm l).symm.nodup hl
  refine asc_ext ?_ hm fun a => by rw [(srtF_perm l).mem_iff]; exact h a
  have key : ∀ m : List Int, Srt m → m.Nodup → Asc m := by
    intro m
    induction m with
    | nil => intros; exact .nil
    | cons x m ih =>
      intro h1 h2
      have h1' := List.pairwise_cons.1 h1
      have h2' := List.nodup_cons.1 h2
      refine List.pairwise_cons.2 ⟨fun a ha => ?_, ih h1'.2 h2'.2⟩
      have := h1'.1 a ha
      have : x ≠ a := fun e => h2'.1 (e ▸ ha)
      omega
  exact key _ (srtF_srt l) hnd
end Go.Fw
