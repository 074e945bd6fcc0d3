/-
  Words for walks with trees: loops, calls, closing. No condition.
-/
import Derived.Test.YtcidmkcicagpaaaGreatFw7
namespace Go.Fw

/-- What holds at a loop's head, the trees among it. -/
def InvT (nt : Nat) (fs : List (Nat × D)) (p : (Nat → Option Ob) → (Nat → Nat) → List TE → Prop) (s : St) : Prop := s.nt = nt ∧ (∀ x ∈ fs, s.env x.1 = x.2) ∧ p s.H s.n s.T

theorem OL.app {R : D → D → List TE → Prop} {a b c d : List D} {T T' : List TE} (h : OL R a b T) (k : OL R c d T') : OL R (a ++ c) (b ++ d) (T ++ T') := by
  induction h with
  | nil => exact k
  | cons h _ ih => rw [List.cons_append, List.cons_append, List.append_assoc]; exact .cons h ih
theorem OL.len {R : D → D → List TE → Prop} {a b : List D} {T : List TE} (h : OL R a b T) : b.length = a.length := by
  induction h with
  | nil => rfl
  | cons _ _ ih => simp [ih]
theorem OL.split {R : D → D → List TE → Prop} : ∀ (a : List D) {c e : List D} {T : List TE}, OL R (a ++ c) e T → ∃ b d T1 T2, e = b ++ d ∧ T = T1 ++ T2 ∧ OL R a b T1 ∧ OL R c d T2
  | [], c, e, T, h => ⟨[], e, [], T, rfl, rfl, .nil, h⟩
  | x :: a, c, e, T, h => by
    cases h with
    | cons h t =>
      obtain ⟨b, d, T1, T2, rfl, rfl, h1, h2⟩ := OL.split a t
      exact ⟨_ :: b, d, _ ++ T1, T2, rfl, by rw [List.append_assoc], .cons h h1, h2⟩
theorem ol_nil {es : List D} {T : List TE} : OL O1 [] es T ↔ es = [] ∧ T = [] := ⟨fun h => by cases h; exact ⟨rfl, rfl⟩, fun h => by rw [h.1, h.2]; exact .nil⟩
theorem ol_sc {v : Value} {ds es : List D} {T : List TE} : OL O1 (.sc v :: ds) es T ↔ ∃ es', es = .sc v :: es' ∧ OL O1 ds es' T :=
  ⟨fun h => by cases h with | cons h t => cases h; exact ⟨_, rfl, by simpa using t⟩, fun ⟨es', e, h⟩ => by rw [e]; exact OL.cons (T := []) (.sc v) h⟩
theorem ol_sl {sz : Nat} {rows : List (List D)} {ds es : List D} {T : List TE} : OL O1 (.sl sz rows :: ds) es T ↔ ∃ a n c F es' T', es = .sc (.slice a n c) :: es' ∧ T = ⟨.slice a n c, .sl sz rows, F⟩ :: T' ∧ OL O1 ds es' T' :=
  ⟨fun h => by cases h with | cons h t => cases h with | sl _ _ a n c F => exact ⟨a, n, c, F, _, _, rfl, by simp, t⟩, fun ⟨a, n, c, F, es', T', e, e', h⟩ => by rw [e, e']; exact OL.cons (T := [_]) (.sl sz rows a n c F) h⟩
theorem OL.one {ds es : List D} {T : List TE} (h : OL O1 ds es T) (k : ∀ d ∈ ds, oneD d = true) : ∀ e ∈ es, oneD e = true := by
  induction h with
  | nil => simp
  | cons h _ ih =>
    intro e he
    rcases List.mem_cons.1 he with rfl | he
    · cases h with
      | sc v => exact k _ (by simp)
      | sl => rfl
    · exact ih (fun d hd => k d (List.mem_cons_of_mem _ hd)) e he
theorem o3_sl {sz : Nat} {rows : List (List D)} {e : D} {T : List TE} (h : O3 (.sl sz rows) e T) : ∃ a n c F, e = .sc (.slice a n c) ∧ T = [⟨.slice a n c, .sl sz rows, F⟩] := by
  cases h with | one h => cases h with | one h => cases h with | sl _ _ a n c F => exact ⟨a, n, c, F, rfl, rfl⟩
theorem o3_ag {ds : List D} {e : D} {T : List TE} (h : O3 (.ag ds) e T) : ∃ es, e = .ag es ∧ OL O1 ds es T := by
  cases h with | one h => cases h with
    | one h => cases h
    | ag h => exact ⟨_, rfl, h⟩
theorem o3_sc {v : Value} {e : D} {T : List TE} (h : O3 (.sc v) e T) : e = .sc v ∧ T = [] := by
  cases h with | one h => cases h with | one h => cases h; exact ⟨rfl, rfl⟩
theorem o3_tp_ag_sc {ds : List D} {v : Value} {e : D} {T : List TE} (h : O3 (.tp [.ag ds, .sc v]) e T) : ∃ es, e = .tp [.ag es, .sc v] ∧ OL O1 ds es T := by
  cases h with
  | one h => cases h with | one h => cases h
  | tp h => cases h with | cons h t => cases t with | cons h' t => cases t; cases h with
    | one h => cases h
    | ag h => cases h' with | one h' => cases h'; exact ⟨_, rfl, by simpa using h⟩
theorem o3_tp_sl_sc {sz : Nat} {rows : List (List D)} {v : Value} {e : D} {T : List TE} (h : O3 (.tp [.sl sz rows, .sc v]) e T) : ∃ a n c F, e = .tp [.sc (.slice a n c), .sc v] ∧ T = [⟨.slice a n c, .sl sz rows, F⟩] := by
  cases h with
  | one h => cases h with | one h => cases h
  | tp h => cases h with | cons h t => cases t with | cons h' t => cases t; cases h with
    | one h => cases h with | sl _ _ a n c F => cases h' with | one h' => cases h'; exact ⟨a, n, c, F, rfl, rfl⟩

theorem OL.sc' {v : Value} {ds es : List D} {T : List TE} (h : OL O1 ds es T) : OL O1 (.sc v :: ds) (.sc v :: es) T := OL.cons (T := []) (.sc v) h
theorem OL.tr' {sz : Nat} {rows : List (List D)} {a : Option Addr} {n c : Nat} {F : List Nat} {ds es : List D} {T : List TE} (h : OL O1 ds es T) : OL O1 (.sl sz rows :: ds) (.sc (.slice a n c) :: es) (⟨.slice a n c, .sl sz rows, F⟩ :: T) := OL.cons (T := [_]) (.sl sz rows a n c F) h
theorem ol_scs : ∀ {ds : List D}, (∀ d ∈ ds, ∃ v, d = .sc v) → OL O1 ds ds []
  | [], _ => .nil
  | d :: ds, h => by
    obtain ⟨v, rfl⟩ := h d (by simp)
    exact OL.sc' (ol_scs fun e he => h e (by simp [he]))
theorem put_flat {cs r z : List D} {zs : List (List D)} {sz k m : Nat} (hk : cs.length = k) (hz : z.length = sz) (hm : m = k + sz) : (cs ++ (z :: zs).flatten).take k ++ r ++ (cs ++ (z :: zs).flatten).drop m = (cs ++ r) ++ zs.flatten := by
  subst hk; subst hm
  rw [List.take_left, List.flatten_cons, ← List.append_assoc cs z, show cs.length + sz = (cs ++ z).length by simp [hz], List.drop_left]

/-! ### Calls -/
theorem Fz.cl' {H : Nat → Option Ob} {d : D} (h : Cl d) : Fz H d d := .cl d h
/-- A call that answers with trees. -/
theorem callK_new {P : Program} {s : St} {f : FuncId} {first caps args : List D} {dst : Option Nat} {K : St → Prop} (r : D) (h : SpG P f (first ++ args ++ caps) [] [] r) (hcl : ∀ d ∈ first ++ args ++ caps, Cl d)
    (hK : ∀ e T, O3 r e T → K ({ s with T := s.T ++ T }.put dst e)) : callK P s (.fn f first caps) args dst K :=
  .inr <| .inl ⟨_, [], s.T, [], r, by simp, rfl, fun i d e hd he => by rw [hd] at he; cases he; exact .fz (.cl d (hcl d (List.mem_of_getElem? hd))), h, fun e T k => ⟨s.T ++ T, by simp [upT], hK e T k⟩⟩
theorem fb_zip {H : Nat → Option Ob} {T : List TE} {as bs : List D} (h : ∀ x ∈ as.zip bs, Fb H T x.1 x.2) : ∀ (i : Nat) (d e : D), as[i]? = some d → bs[i]? = some e → Fb H T d e := fun i d e hd he =>
  h (d, e) (List.mem_iff_getElem?.2 ⟨i, by rw [List.getElem?_zip_eq_some]; exact ⟨hd, he⟩⟩)
/-- A call that reads trees, and may answer with trees. -/
theorem callK_read {P : Program} {s : St} {f : FuncId} {first caps args : List D} {dst : Option Nat} {K : St → Prop} (as : List D) (r : D) (h : SpG P f as [] [] r) (hl : as.length = (first ++ args ++ caps).length)
    (hfb : ∀ x ∈ (first ++ args ++ caps).zip as, Fb s.H s.T x.1 x.2) (hK : ∀ e T, O3 r e T → K ({ s with T := s.T ++ T }.put dst e)) : callK P s (.fn f first caps) args dst K :=
  .inr <| .inl ⟨as, [], s.T, [], r, by simp, hl, fb_zip hfb, h, fun e T k => ⟨s.T ++ T, by simp [upT], hK e T k⟩⟩
/-- A call that writes trees. -/
theorem callK_mark {P : Program} {s : St} {f : FuncId} {first caps args : List D} {dst : Option Nat} {K : St → Prop} (Ts rest Tn : List TE) (ds : List D) (r : Value) (h : SpG P f (first ++ args ++ caps) Ts ds (.sc r)) (hcl : ∀ d ∈ first ++ args ++ caps, Cl d)
    (hp : s.T.Perm (Ts ++ rest)) (hn : Tn.Perm (upT Ts ds ++ rest)) (hK : K ({ s with T := Tn }.put dst (.sc r))) : callK P s (.fn f first caps) args dst K :=
  .inr <| .inl ⟨_, Ts, rest, ds, _, hp, rfl, fun i d e hd he => by rw [hd] at he; cases he; exact .fz (.cl d (hcl d (List.mem_of_getElem? hd))), h, fun e T k => by
    obtain ⟨rfl, rfl⟩ := o3_sc k
    exact ⟨Tn, by simpa using hn, hK⟩⟩

/-- A call that answers with a new object of the call's own. -/
theorem callK_obj {P : Program} {s : St} {f : FuncId} {first caps args : List D} {t : Nat} {K : St → Prop} (e : TypeId) (sz : Nat) (rows : List (List D)) (h : SpO P f (first ++ args ++ caps) e sz rows) (hcl : ∀ d ∈ first ++ args ++ caps, Cl d)
    (hK : K ((newOb s t e sz rows.flatten).put (some t) (.ms t (s.n t) rows.length))) : callK P s (.fn f first caps) args (some t) K :=
  .inr <| .inr <| .inl ⟨t, e, sz, rows, rfl, h, fun _ d hd => hcl d (List.mem_of_getElem? hd), hK⟩
/-! ### Closing -/
theorem inls_app : ∀ (a b : Us), inls (a ++ b) = inls a ++ inls b
  | [], b => rfl
  | .inl te :: a, b => by simp [inls, inls_app a b]
  | .inr t :: a, b => by simp [inls, inls_app a b]
theorem inrs_app : ∀ (a b : Us), inrs (a ++ b) = inrs a ++ inrs b
  | [], b => rfl
  | .inl te :: a, b => by simp [inrs, inrs_app a b]
  | .inr t :: a, b => by simp [inrs, inrs_app a b]
theorem inls_map : ∀ T : List TE, inls (T.map Sum.inl) = T
  | [] => rfl
  | te :: T => by simp [inls, inls_map T]
theorem inrs_map : ∀ T : List TE, inrs (T.map Sum.inl) = []
  | [] => rfl
  | te :: T => by simp [inrs, inrs_map T]
theorem O1.c1 {H : Nat → Option Ob} {d e : D} {T : List TE} (h : O1 d e T) : C1 H e d (T.map .inl) := by
  cases h with
  | sc v => exact .sc v
  | sl sz rows a n c F => exact .tr ⟨.slice a n c, .sl sz rows, F⟩
theorem OL.cl {H : Nat → Option Ob} {ds es : List D} {T : List TE} (h : OL O1 ds es T) : CL (C1 H) es ds (T.map .inl) := by
  induction h with
  | nil => exact .nil
  | cons h _ ih => rw [List.map_append]; exact .cons h.c1 ih
theorem OL.idx {H : Nat → Option Ob} {ds es : List D} {T : List TE} (h : OL O1 ds es T) : ∃ (f : Nat → D) (Rs : Nat → Us), (T.map Sum.inl : Us) = (List.range ds.length).flatMap Rs ∧ ∀ (j : Nat) (d : D), ds[j]? = some d → es[j]? = some (f j) ∧ C1 H (f j) d (Rs j) := by
  induction h with
  | nil => exact ⟨fun _ => .any, fun _ => [], rfl, by simp⟩
  | @cons d e T ds es T' h _ ih =>
    obtain ⟨f, Rs, h1, h2⟩ := ih
    refine ⟨fun j => match j with | 0 => e | j + 1 => f j, fun j => match j with | 0 => T.map .inl | j + 1 => Rs j, ?_, fun j d' hd => ?_⟩
    · rw [List.map_append, List.length_cons, range_flat, h1]
    · cases j with
      | zero => simp at hd; subst hd; exact ⟨rfl, h.c1⟩
      | succ j => simpa using h2 j d' (by simpa using hd)
/-- An object of the call's own whose cells are values and trees. -/
theorem C1.rows {H : Nat → Option Ob} {t gn n sz : Nat} {ob : Ob} {rows : List (List D)} {T : List TE} (hob : H t = some ob) (hg : ob.gen = gn) (hs : ob.sz = sz) (hsz : 0 < sz) (hn : n = rows.length) (hl : ∀ r ∈ rows, r.length = sz) (ho : OL O1 rows.flatten ob.cells T) (hks : ob.keys = none := by rfl) :
    C1 H (.ms t gn n) (.sl sz rows) (.inr t :: T.map .inl) := by
  subst hg; subst hs; subst hn
  obtain ⟨f, Rs, h1, h2⟩ := ho.idx (H := H)
  rw [h1]
  exact .ms t ob rows f Rs hob hks hsz hl (fun j d hj => (h2 j d hj).1) fun j d hj => (h2 j d hj).2
theorem closeK_rows {s : St} {t gn n sz : Nat} {ob : Ob} {rows : List (List D)} (hob : s.H t = some ob) (hg : ob.gen = gn) (hs : ob.sz = sz) (hsz : 0 < sz) (hn : n = rows.length) (hl : ∀ r ∈ rows, r.length = sz) (ho : OL O1 rows.flatten ob.cells s.T) (hks : ob.keys = none := by rfl) :
    closeK [] [] (.sl sz rows) s (.ms t gn n) :=
  ⟨_, [], .one (.one (C1.rows hob hg hs hsz hn hl ho hks)), by simp [upT, inls, inls_map], by simp [inrs, inrs_map]⟩
theorem closeK_nil {s : St} {sz : Nat} (h : s.T = []) : closeK [] [] (.sl sz []) s (.sc (.slice none 0 0)) := ⟨[], [], .one (.one (.nil sz)), by simp [upT, inls, h], by simp [inrs]⟩
theorem closeK_ag {s : St} {ds es : List D} (ho : OL O1 ds es s.T) : closeK [] [] (.ag ds) s (.ag es) :=
  ⟨_, [], .one (.ag ho.cl), by simp [upT, inls_map], by simp [inrs_map]⟩
theorem retG_ret {P : Program} {rs : List ResultVar} {Ts : List TE} {ds : List D} {r : D} {s : St} : retG P rs Ts ds r .ret s = ∃ d, resD P s rs = some d ∧ closeK Ts ds r s d := Eq.trans rfl rfl
theorem retG_normal {P : Program} {rs : List ResultVar} {Ts : List TE} {ds : List D} {r : D} {s : St} : retG P rs Ts ds r .normal s = ∃ d, resD P s rs = some d ∧ closeK Ts ds r s d := Eq.trans rfl rfl
def resG (x : Option D) (K : D → Prop) : Prop := match x with | some d => K d | none => False
theorem retG_ret_eq {P : Program} {rs : List ResultVar} {Ts : List TE} {ds : List D} {r : D} {s : St} : retG P rs Ts ds r .ret s = resG (resD P s rs) (closeK Ts ds r s) := by
  apply propext
  rw [retG_ret]
  unfold resG
  cases resD P s rs <;> simp
theorem retG_normal_eq {P : Program} {rs : List ResultVar} {Ts : List TE} {ds : List D} {r : D} {s : St} : retG P rs Ts ds r .normal s = resG (resD P s rs) (closeK Ts ds r s) := retG_ret_eq
theorem retO_ret_eq {P : Program} {rs : List ResultVar} {e : TypeId} {sz : Nat} {rows : List (List D)} {s : St} : retO P rs e sz rows .ret s = resG (resD P s rs) (closeO e sz rows s) := by
  apply propext
  show (∃ d, resD P s rs = some d ∧ closeO e sz rows s d) ↔ _
  unfold resG
  cases resD P s rs <;> simp
theorem retO_normal_eq {P : Program} {rs : List ResultVar} {e : TypeId} {sz : Nat} {rows : List (List D)} {s : St} : retO P rs e sz rows .normal s = resG (resD P s rs) (closeO e sz rows s) := retO_ret_eq
theorem resG_some {d : D} {K : D → Prop} : resG (some d) K = K d := Eq.trans rfl rfl
theorem retM_ret {P : Program} {rs : List ResultVar} {T : List TE} {sz : Nat} {rows : List (List D)} {r : Value} {s : St} : retM P rs T sz rows r .ret s = (resD P s rs = some (.sc r) ∧ closeM T sz rows s) := Eq.trans rfl rfl
theorem retM_normal {P : Program} {rs : List ResultVar} {T : List TE} {sz : Nat} {rows : List (List D)} {r : Value} {s : St} : retM P rs T sz rows r .normal s = (resD P s rs = some (.sc r) ∧ closeM T sz rows s) := Eq.trans rfl rfl
theorem retN_ret {P : Program} {rs : List ResultVar} {T : List TE} {r : Value} {s : St} : retN P rs T r .ret s = (resD P s rs = some (.sc r) ∧ s.T = T) := Eq.trans rfl rfl
theorem retN_normal {P : Program} {rs : List ResultVar} {T : List TE} {r : Value} {s : St} : retN P rs T r .normal s = (resD P s rs = some (.sc r) ∧ s.T = T) := Eq.trans rfl rfl
end Go.Fw
