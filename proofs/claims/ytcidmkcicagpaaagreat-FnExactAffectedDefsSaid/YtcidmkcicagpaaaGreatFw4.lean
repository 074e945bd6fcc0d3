/-
  Plain lemmas on rows of data, and words that the contracts of a program share. No condition.
-/
import Derived.Test.YtcidmkcicagpaaaGreatFw3
namespace Go.Fw

@[simp] theorem cl_sc (v : Value) : Cl (.sc v) := .sc v
theorem Cl.ag' {ds : List D} (h : ∀ d ∈ ds, Cl d) : Cl (.ag ds) := .ag ds fun _ d hd => h d (List.mem_of_getElem? hd)
theorem Cl.cp' {ds : List D} (h : ∀ d ∈ ds, Cl d) : Cl (.cp ds) := .cp ds fun _ d hd => h d (List.mem_of_getElem? hd)
theorem Cl.tp' {ds : List D} (h : ∀ d ∈ ds, Cl d) : Cl (.tp ds) := .tp ds fun _ d hd => h d (List.mem_of_getElem? hd)
theorem Cl.sl' {sz : Nat} {rows : List (List D)} (h : ∀ r ∈ rows, ∀ d ∈ r, Cl d) : Cl (.sl sz rows) := .sl sz rows fun _ r _ d hr hd => h r (List.mem_of_getElem? hr) d (List.mem_of_getElem? hd)
theorem Cl.fn' {f : FuncId} {ds es : List D} (h : ∀ d ∈ ds, Cl d) (k : ∀ d ∈ es, Cl d) : Cl (.fn f ds es) := .fn f ds es (fun _ d hd => h d (List.mem_of_getElem? hd)) fun _ d hd => k d (List.mem_of_getElem? hd)
@[simp] theorem cl_ag {ds : List D} : Cl (.ag ds) ↔ ∀ d ∈ ds, Cl d := ⟨fun h d hd => by cases h with | ag _ h => obtain ⟨i, hi⟩ := List.mem_iff_getElem?.1 hd; exact h i d hi, Cl.ag'⟩
@[simp] theorem cl_cp {ds : List D} : Cl (.cp ds) ↔ ∀ d ∈ ds, Cl d := ⟨fun h d hd => by cases h with | cp _ h => obtain ⟨i, hi⟩ := List.mem_iff_getElem?.1 hd; exact h i d hi, Cl.cp'⟩
@[simp] theorem cl_tp {ds : List D} : Cl (.tp ds) ↔ ∀ d ∈ ds, Cl d := ⟨fun h d hd => by cases h with | tp _ h => obtain ⟨i, hi⟩ := List.mem_iff_getElem?.1 hd; exact h i d hi, Cl.tp'⟩
@[simp] theorem cl_sl {sz : Nat} {rows : List (List D)} : Cl (.sl sz rows) ↔ ∀ r ∈ rows, ∀ d ∈ r, Cl d :=
  ⟨fun h r hr d hd => by cases h with | sl _ _ h => obtain ⟨i, hi⟩ := List.mem_iff_getElem?.1 hr; obtain ⟨j, hj⟩ := List.mem_iff_getElem?.1 hd; exact h i r j d hi hj, Cl.sl'⟩
@[simp] theorem cl_fn {f : FuncId} {ds es : List D} : Cl (.fn f ds es) ↔ (∀ d ∈ ds, Cl d) ∧ ∀ d ∈ es, Cl d :=
  ⟨fun h => by cases h with | fn _ _ _ h k => exact ⟨fun d hd => by obtain ⟨i, hi⟩ := List.mem_iff_getElem?.1 hd; exact h i d hi, fun d hd => by obtain ⟨i, hi⟩ := List.mem_iff_getElem?.1 hd; exact k i d hi⟩, fun h => Cl.fn' h.1 h.2⟩

/-- A row stored into rows that lie one behind the other. -/
theorem setR_rows {rs zs : List (List D)} {z r : List D} {sz k : Nat} (h : ∀ r ∈ rs, r.length = sz) (hk : k = rs.length * sz) (hz : z.length = sz) (hr : r.length = sz) : setR (rs ++ z :: zs).flatten k r = (rs ++ r :: zs).flatten := by
  have hl := flatten_len h
  subst hk
  unfold setR
  simp only [List.flatten_append, List.flatten_cons]
  rw [← hl, List.take_left, List.drop_append, List.drop_eq_nil_of_le (by omega), List.nil_append, show rs.flatten.length + r.length - rs.flatten.length = z.length by omega, List.drop_left]
  simp
theorem put_rows (rs : List (List D)) {zs : List (List D)} {z r : List D} {sz k m : Nat} (h : ∀ r ∈ rs, r.length = sz) (hk : k = rs.length * sz) (hz : z.length = sz) (hr : r.length = sz) (hm : m = k + sz) :
    (rs ++ z :: zs).flatten.take k ++ r ++ (rs ++ z :: zs).flatten.drop m = (rs ++ r :: zs).flatten := by
  rw [← setR_rows h hk hz hr, setR, hr, hm]
theorem Fz.rows {H : Nat → Option Ob} {t gn n sz : Nat} {ob : Ob} {rows : List (List D)} (hob : H t = some ob) (hg : ob.gen = gn) (hs : ob.sz = sz) (hsz : 0 < sz) (hn : n = rows.length) (hl : ∀ r ∈ rows, r.length = sz) (hc : ob.cells = rows.flatten)
    (hcl : ∀ r ∈ rows, ∀ d ∈ r, Cl d) (hks : ob.keys = none := by rfl) : Fz H (.ms t gn n) (.sl sz rows) := by
  subst hg; subst hn; subst hs
  refine .ms t ob rows (fun i j => (rows.getD i []).getD j .any) hob hks hsz (fun i r hi => hl r (List.mem_of_getElem? hi)) (fun i r j d hi hj => ?_) (fun i r j d hi hj => ?_)
  · rw [hc, flatten_get hl hi hj]; simp [List.getD, hi, hj]
  · simp only [List.getD, hi, hj, Option.getD_some]
    exact .cl _ (hcl r (List.mem_of_getElem? hi) d (List.mem_of_getElem? hj))
theorem Fz.ag2 {H : Nat → Option Ob} {ds es : List D} (h : ∀ x ∈ ds.zip es, Fz H x.1 x.2) (hl : ds.length = es.length) : Fz H (.ag ds) (.ag es) :=
  .ag ds es hl fun i d e hd he => h (d, e) (List.mem_iff_getElem?.2 ⟨i, by rw [List.getElem?_zip_eq_some]; exact ⟨hd, he⟩⟩)

/-! ### Shared words -/
abbrev I (n : Int) : D := .sc (.int .i64 n)
abbrev B (b : Bool) : D := .sc (.bool b)
abbrev S (s : ByteArray) : D := .sc (.string s)
def ints (l : List Int) : D := .sl 1 (l.map fun n => [I n])
def strs (l : List ByteArray) : D := .sl 1 (l.map fun s => [S s])
@[simp] theorem cl_ints (l : List Int) : Cl (ints l) := by simp [ints]
@[simp] theorem cl_strs (l : List ByteArray) : Cl (strs l) := by simp [strs]
theorem replicate_split {α : Type} (x : α) {n k : Nat} (h : k < n) : List.replicate (n - k) x = x :: List.replicate (n - (k + 1)) x := by
  rw [show n - k = (n - (k + 1)) + 1 by omega, List.replicate_succ]

theorem szF_pos' {n : Nat} {left : Int} (f : Nat → Int → Int) (hf : ∀ n left, f n left = if (n : Int) ≤ left then left - n else -1) (h : (n : Int) ≤ left) : f n left = left - n := by rw [hf, if_pos h]
/-! ### A function's end -/
def resK (x : Option D) (H : Nat → Option Ob) (r : D) : Prop := match x with | some d => Fz H d r | none => False
theorem retQ_ret_eq {P : Program} {rs : List ResultVar} {r : D} {s : St} : retQ P rs r .ret s = resK (resD P s rs) s.H r := by
  apply propext
  simp only [retQ, resK]
  constructor
  · rintro ⟨d, h1, h2⟩; rw [h1]; exact h2
  · intro h; split at h
    · exact ⟨_, by assumption, h⟩
    · exact h.elim
theorem retQ_normal_eq {P : Program} {rs : List ResultVar} {r : D} {s : St} : retQ P rs r .normal s = resK (resD P s rs) s.H r := retQ_ret_eq
theorem resK_some {d r : D} {H : Nat → Option Ob} : resK (some d) H r = Fz H d r := Eq.trans rfl rfl
theorem resD_one {P : Program} {s : St} {x : ResultVar} : resD P s [x] = resOne P s x := Eq.trans rfl rfl
theorem resD_two {P : Program} {s : St} {x y : ResultVar} : resD P s [x, y] = (match resOne P s x, resOne P s y with | some a, some b => some (.tp [a, b]) | _, _ => none) := by
  simp only [resD, List.mapM_cons, List.mapM_nil]
  cases resOne P s x <;> cases resOne P s y <;> rfl
theorem resD_three {P : Program} {s : St} {x y z : ResultVar} : resD P s [x, y, z] = (match resOne P s x, resOne P s y, resOne P s z with | some a, some b, some c => some (.tp [a, b, c]) | _, _, _ => none) := by
  simp only [resD, List.mapM_cons, List.mapM_nil]
  cases resOne P s x <;> cases resOne P s y <;> cases resOne P s z <;> rfl
theorem resD_four {P : Program} {s : St} {x y z u : ResultVar} : resD P s [x, y, z, u] = (match resOne P s x, resOne P s y, resOne P s z, resOne P s u with | some a, some b, some c, some d => some (.tp [a, b, c, d]) | _, _, _, _ => none) := by
  simp only [resD, List.mapM_cons, List.mapM_nil]
  cases resOne P s x <;> cases resOne P s y <;> cases resOne P s z <;> cases resOne P s u <;> rfl
theorem bytes_eq (a b : ByteArray) : (a.toList == b.toList) = decide (a = b) := by
  have key : ∀ x : ByteArray, x.toList = x.data.toList := fun x => ByteArray.toList_eq x
  by_cases h : a = b
  · subst h; simp
  · have : a.toList ≠ b.toList := by
      rw [key, key]
      intro e
      apply h
      cases a; cases b
      congr 1
      exact Array.ext' e
    simp [h, this]

/-! ### Arguments that say more -/
def LeD (d e : D) : Prop := ∀ (V : View) (v : Value), Rd V d v → Rd V e v
theorem LeD.rfl {d : D} : LeD d d := fun _ _ h => h
theorem LeD.cp {ds es : List D} (n : Nat) (h : ds.take n = es) : LeD (.cp ds) (.cp es) := fun V v k => by
  cases k with
  | cp _ b o us h1 h2 =>
    have key : ∀ (j : Nat) (d : D), es[j]? = some d → ds[j]? = some d := fun j d hj => by
      rw [← h, List.getElem?_take] at hj
      split at hj
      · exact hj
      · cases hj
    exact .cp es b o us (fun j d hj => h1 j d (key j d hj)) (fun j d hj => h2 j d (key j d hj))
theorem Sp.le {P : Program} {f : FuncId} {as bs : List D} {r : D} (h : Sp P f bs r) (hl : as.length = bs.length) (hle : ∀ (i : Nat) (d e : D), as[i]? = some d → bs[i]? = some e → LeD d e) : Sp P f as r :=
  ⟨h.ok, fun w M vs hM hvs hR => h.run w M vs hM (by omega) fun i d v hd hv => by
    have hi : i < as.length := by rw [hl]; exact (List.getElem?_eq_some_iff.1 hd).1
    exact hle i _ d (List.getElem?_eq_getElem hi) hd _ _ (hR i _ v (List.getElem?_eq_getElem hi) hv)⟩
theorem Sp.le2 {P : Program} {f : FuncId} {a b c d r : D} (h : Sp P f [c, d] r) (h1 : LeD a c) (h2 : LeD b d) : Sp P f [a, b] r := h.le (by simp) fun i x y hx hy => by
  match i, hx, hy with
  | 0, hx, hy => simp at hx hy; subst hx; subst hy; exact h1
  | 1, hx, hy => simp at hx hy; subst hx; subst hy; exact h2
theorem Sp.le1 {P : Program} {f : FuncId} {a c r : D} (h : Sp P f [c] r) (h1 : LeD a c) : Sp P f [a] r := h.le (by simp) fun i x y hx hy => by
  match i, hx, hy with
  | 0, hx, hy => simp at hx hy; subst hx; subst hy; exact h1

/-! ### Calls with arguments that name objects of the call's own -/
theorem Fz.cell {H : Nat → Option Ob} {t gn : Nat} {ob : Ob} {ds : List D} (hob : H t = some ob) (hg : ob.gen = gn) (hc : ob.cells = ds) (hcl : ∀ d ∈ ds, Cl d) (hks : ob.keys = none := by rfl) : Fz H (.rf t gn 0) (.cp ds) := by
  subst hg
  refine .rf t ob 0 ds (fun j => ds.getD j .any) hob hks (fun j e he => ?_) (fun j e he => ?_)
  · rw [hc, Nat.zero_add, he]; simp [List.getD, he]
  · simp only [List.getD, he, Option.getD_some]; exact .cl _ (hcl e (List.mem_of_getElem? he))
theorem fz_zip {H : Nat → Option Ob} {as bs : List D} (h : ∀ x ∈ as.zip bs, Fz H x.1 x.2) : ∀ (i : Nat) (d e : D), as[i]? = some d → bs[i]? = some e → Fz H d e := fun i d e hd he =>
  h (d, e) (List.mem_iff_getElem?.2 ⟨i, by rw [List.getElem?_zip_eq_some]; exact ⟨hd, he⟩⟩)
theorem Fz.fnc {H : Nat → Option Ob} {f : FuncId} {cs ds : List D} (hl : cs.length = ds.length) (h : ∀ x ∈ cs.zip ds, Fz H x.1 x.2) : Fz H (.fn f [] cs) (.fn f [] ds) :=
  .fn f [] [] cs ds rfl hl (fun i d e hd => by simp at hd) (fz_zip h)
theorem callK_frz {P : Program} {s : St} {f : FuncId} {first caps args : List D} {dst : Option Nat} {K : St → Prop} (bs : List D) (r : D) (h : Sp P f bs r) (hl : bs.length = (first ++ args ++ caps).length)
    (hz : ∀ x ∈ (first ++ args ++ caps).zip bs, Fz s.H x.1 x.2) (hdet : (detD r).isSome = true) (hK : K (s.put dst r)) : callK P s (.fn f first caps) args dst K :=
  .inl ⟨r, .inr ⟨bs, hl, fun i d e hd he => .fz (fz_zip hz i d e hd he), h, hdet⟩, hK⟩
end Go.Fw
