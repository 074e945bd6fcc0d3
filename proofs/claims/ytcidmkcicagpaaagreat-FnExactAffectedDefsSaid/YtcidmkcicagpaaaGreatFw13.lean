/-
  Regions that draw their order, where the operations that touch memory wait for one another: each order like one of them. No condition.
-/
import Derived.Test.YtcidmkcicagpaaaGreatFw12
namespace Go.Fw
open Go.RowKit

def pureC (op : Op) : Bool := clsM op == 0 || clsM op == 1
def ldOk (prot : List Nat) (s : St) : Op → Prop
  | .load _ x => match s.ev x with | .rf sl _ _ => sl ∈ prot | _ => True
  | _ => True
/-- what such an operation leaves as it is -/
def frC (prot : List Nat) (dst : Option Nat) (s s' : St) : Prop := s'.nt = s.nt ∧ (∀ t, dst ≠ some t → s'.env t = s.env t) ∧ ∀ sl ∈ prot, s'.H sl = s.H sl
/-- a load for which all that write memory wait -/
def freL (fre : List Nat) (op : Op) (dst : Option Nat) : Bool := clsM op == 1 && inO fre dst
def ldF (b : Bool) (prot : List Nat) (s : St) (op : Op) : Prop := match b with | true => True | false => ldOk prot s op
def vcOpC (P : Program) (mu prot fre : List Nat) (op : Op) (dst : Option Nat) (K : St → Prop) (s : St) : Prop :=
  if pureC op = true then ldF (freL fre op dst) prot s op ∧ putK s dst K (stepP P s op) else vcOp P mu op dst (fun s' => frC prot dst s s' ∧ K s') s
def vcOpsC (P : Program) (mu prot fre : List Nat) : List Oper → (St → Prop) → St → Prop
  | [], K, s => K s
  | o :: rest, K, s => vcOpC P mu prot fre o.op o.dst (vcOpsC P mu prot fre rest K) s
/-- The order told, checked: an operation stands ahead of those that wait for it and of those that touch no memory it writes. -/
def lexC (md : Region.Mode) (ops : Array Oper) (fre : List Nat) : List Nat → Array Bool → Bool
  | [], listed => (Region.ready md ops listed).isEmpty
  | k :: l, listed => (Region.ready md ops listed).contains k && ((List.range ops.size).all fun j => match ops[k]?, ops[j]? with
      | some oi, some oj => listed.getD j true || j == k || depM md ops ops.size j k || (oi.apart ops oj && pureC oi.op && (pureC oj.op || !freL fre oi.op oi.dst))
      | _, _ => false) && lexC md ops fre l (listed.setIfInBounds k true)
def chnB (ops : Array Oper) (fre l : List Nat) : Bool := (l.length == ops.size) && lexC .any ops fre l (Array.replicate ops.size false) && ops.all fun o => o.guard.isNone
def pickL (ops : List Oper) (l : List Nat) : List Oper := l.filterMap fun i => ops[i]?

section
variable {P : Program} {mu prot fre : List Nat} {ops : Array Oper} {md : Region.Mode}
theorem cls_pure {op : Op} (h : pureC op = true) : clsM op = 0 ∨ clsM op = 1 := by simpa [pureC] using h
theorem vcOp_putK {op : Op} {dst : Option Nat} {K : St → Prop} {s : St} (h : pureC op = true) : vcOp P mu op dst K s = putK s dst K (stepP P s op) := by
  have hc := cls_pure h
  cases op <;> simp only [clsM] at hc <;> first | rfl | (exact absurd hc (by decide)) | skip
  rename_i c
  obtain ⟨callee, args, argTypes⟩ := c
  cases callee
  case value => exact absurd hc (by simp)
  case invoke => rfl
  case builtin b => cases b <;> first | rfl | (exact absurd hc (by simp))
theorem vcOpC_vcOp {op : Op} {dst : Option Nat} {K : St → Prop} {s : St} (h : vcOpC P mu prot fre op dst K s) : vcOp P mu op dst K s := by
  unfold vcOpC at h
  split at h
  · rename_i hp; rw [vcOp_putK hp]; exact h.2
  · exact vcOp_mono (fun s h => h.2) h
theorem vcOpC_mono {op : Op} {dst : Option Nat} {K K' : St → Prop} (hK : ∀ s, K s → K' s) {s : St} (h : vcOpC P mu prot fre op dst K s) : vcOpC P mu prot fre op dst K' s := by
  unfold vcOpC at *
  split
  · rename_i hp
    rw [if_pos hp] at h
    refine ⟨h.1, ?_⟩
    cases hs : stepP P s op with
    | none => rw [hs] at h; exact h.2
    | some d => rw [hs] at h; exact hK _ h.2
  · rename_i hp
    rw [if_neg hp] at h
    exact vcOp_mono (fun s h => ⟨h.1, hK _ h.2⟩) h
/-- A store and a new object, in another state with the same objects. -/
theorem stepMem_congr {s s' : St} (hH : s'.H = s.H) (hn : s'.n = s.n) {t : Nat} {op : Op} (h : ∀ x ∈ op.operands, s'.ev x = s.ev x) :
    stepMem P mu s' t op = (stepMem P mu s t op).map fun q => (q.1, { s' with H := q.2.1.H, n := q.2.1.n }, q.2.2) := by
  cases op
  case box e x =>
    simp only [stepMem]
    rw [h x (by simp [Op.operands])]
    cases cellsD (s.ev x) with
    | none => rfl
    | some cs =>
      simp only
      split
      · simp [newOb, hH, hn]
      · simp [← hH, ← hn]
  case alloc e =>
    simp only [stepMem]
    cases zeroD P e with
    | none => rfl
    | some cs => simp [newOb, hH, hn]
  case makeMap e r =>
    simp only [stepMem]
    cases r <;> simp [newMap, hH, hn]
  case buildSlice ty l ps =>
    simp only [stepMem]
    rw [parts_congr (s := s) (s' := s') fun x hx => h x (by simpa [Op.operands] using hx)]
    split
    · split <;> simp [newOb, hH, hn]
    · rfl
  case makeSlice ty l c =>
    simp only [stepMem]
    rw [h l (by simp [Op.operands]), h c (by simp [Op.operands])]
    split <;> simp [newOb, hH, hn]
  case call c =>
    obtain ⟨callee, args, argTypes⟩ := c
    cases callee
    case builtin b =>
      cases b
      case append =>
        have ha : ∀ x ∈ args.toList, s'.ev x = s.ev x := fun x hx => h x (by simp [Op.operands, Call.operands]; simpa using hx)
        simp only [stepMem]
        generalize args.toList = l at ha
        match l, argTypes.toList, ha with
        | [x, y], [ty, ty'], ha =>
          simp only
          rw [ha x (by simp), ha y (by simp), hH]
          cases elemInfo P ty with
          | none => rfl
          | some q =>
            obtain ⟨e, sz, by'⟩ := q
            simp only [newsD_congr hH]
            repeat' split
            all_goals first | rfl | (simp [← hH, ← hn]; done) | (simp [newOb, hH, hn]; done) | (simp [movOb, hH, hn]; done)
        | [], _, _ => rfl
        | [_], _, _ => rfl
        | _ :: _ :: _ :: _, _, _ => rfl
        | [_, _], [], _ => rfl
        | [_, _], [_], _ => rfl
        | [_, _], _ :: _ :: _ :: _, _ => rfl
      all_goals rfl
    all_goals rfl
  all_goals rfl
theorem stepStore_congr {s s' : St} (hH : s'.H = s.H) (hn : s'.n = s.n) {op : Op} (h : ∀ x ∈ op.operands, s'.ev x = s.ev x) :
    stepStore P s' op = (stepStore P s op).map fun q => (q.1, { s' with H := q.2.H, n := q.2.n }) := by
  cases op
  case store ty x y =>
    simp only [stepStore]
    rw [h x (by simp [Op.operands]), h y (by simp [Op.operands]), hH]
    split
    · split
      · split <;> simp [← hn]
      · rfl
    · rfl
  case mapUpdate ty m k v =>
    simp only [stepStore]
    rw [h m (by simp [Op.operands]), h k (by simp [Op.operands]), h v (by simp [Op.operands]), hH]
    split
    · split
      · split
        · split
          · unfold putMap
            split <;> simp [← hn, hH]
          · rfl
        · rfl
      · rfl
    · rfl
  all_goals rfl
/-- A write to a temporary that the operation does not look at may be made behind it. -/
theorem vcOp_put {op : Op} {dst x : Option Nat} {d : D} {K : St → Prop} {s : St} (hop : ∀ y ∈ op.operands, (s.put x d).ev y = s.ev y) (hd : ∀ t, dst = some t → x ≠ some t) (h : vcOp P mu op dst K (s.put x d)) :
    vcOp P mu op dst (fun s' => (∀ t, x = some t → s'.env t = s.env t) ∧ K (s'.put x d)) s := by
  have hev : ∀ (s1 : St) (e : D), (∀ t, x = some t → s1.env t = s.env t) → ∀ t, x = some t → (s1.put dst e).env t = s.env t := fun s1 e h1 t ht => by
    rw [← h1 t ht]
    have : (s1.put dst e).ev (.tmp t) = s1.ev (.tmp t) := put_ev fun u hu k => by cases k; exact hd t hu ht
    exact this
  have hHN : ∀ (H : Nat → Option Ob) (n : Nat → Nat) (T : List TE) (e : D), ({ s.put x d with H := H, n := n, T := T } : St).put dst e = (({ s with H := H, n := n, T := T } : St).put dst e).put x d := fun H n T e => by
    rw [put_comm _ (x := dst) (y := x) e d hd]
    congr 1
    cases x <;> simp only [St.put]; split <;> rfl
  have put : ∀ {y : Option D}, putK (s.put x d) dst K y → putK s dst (fun s' => (∀ t, x = some t → s'.env t = s.env t) ∧ K (s'.put x d)) y := fun {y} k => by
    cases y with
    | none => exact k
    | some e => exact ⟨hev s e fun _ _ => rfl, by rw [← put_comm s (x := x) (y := dst) d e fun t ht k => hd t k ht]; exact k⟩
  have stp : ∀ {o : Op}, (∀ y ∈ o.operands, (s.put x d).ev y = s.ev y) → stepP P (s.put x d) o = stepP P s o := fun ho => stepP_congr put_H ho
  have mem : ∀ {t : Nat} {o : Op}, (∀ y ∈ o.operands, (s.put x d).ev y = s.ev y) → dst = some t → memK t K (stepMem P mu (s.put x d) t o) → memK t (fun s' => (∀ t, x = some t → s'.env t = s.env t) ∧ K (s'.put x d)) (stepMem P mu s t o) := fun {t o} ho ht k => by
    rw [stepMem_congr put_H put_n ho] at k
    cases hs : stepMem P mu s t o with
    | none => rw [hs] at k; exact k
    | some q =>
      obtain ⟨p, s1, e⟩ := q
      rw [hs] at k
      have e1 := stepMem_shape hs
      refine ⟨k.1, ?_, ?_⟩
      · rw [← ht]; exact hev s1 e fun t _ => by rw [← e1]
      · have := k.2
        rw [← ht] at this
        rw [← ht, ← e1]
        have e2 := hHN s1.H s1.n s.T e
        have e3 : ({ s.put x d with H := s1.H, n := s1.n, T := s.T } : St) = { s.put x d with H := s1.H, n := s1.n } := by rw [← put_T (s := s) (dst := x) (d := d)]
        rw [e3] at e2
        rw [← e2]
        exact this
  have sto : ∀ {o : Op}, (∀ y ∈ o.operands, (s.put x d).ev y = s.ev y) → stoK dst K (stepStore P (s.put x d) o) → stoK dst (fun s' => (∀ t, x = some t → s'.env t = s.env t) ∧ K (s'.put x d)) (stepStore P s o) := fun {o} ho k => by
    rw [stepStore_congr put_H put_n ho] at k
    cases hs : stepStore P s o with
    | none => rw [hs] at k; exact k
    | some q =>
      obtain ⟨p, s1⟩ := q
      rw [hs] at k
      have e1 := stepStore_shape hs
      refine ⟨k.1, hev s1 _ fun t _ => by rw [← e1], ?_⟩
      have := k.2
      rw [← e1]
      have e2 := hHN s1.H s1.n s.T (.sc (.tuple #[]))
      have e3 : ({ s.put x d with H := s1.H, n := s1.n, T := s.T } : St) = { s.put x d with H := s1.H, n := s1.n } := by rw [← put_T (s := s) (dst := x) (d := d)]
      rw [e3] at e2
      rw [← e2]
      exact this
  have hHN' : ∀ (T : List TE) (e : D), ({ s.put x d with T := T } : St).put dst e = (({ s with T := T } : St).put dst e).put x d := fun T e => by
    have := hHN s.H s.n T e
    have e3 : ({ s.put x d with H := s.H, n := s.n, T := T } : St) = { s.put x d with T := T } := by
      rw [show s.H = (s.put x d).H from put_H.symm, show s.n = (s.put x d).n from put_n.symm]
    rw [e3] at this
    exact this
  cases op
  case call c =>
    obtain ⟨callee, args, argTypes⟩ := c
    cases callee
    case value f =>
      have ha : ∀ y ∈ args.toList, (s.put x d).ev y = s.ev y := fun y hy => hop y (by simp [Op.operands, Call.operands]; exact .inr (by simpa using hy))
      have hf : (s.put x d).ev f = s.ev f := hop f (by simp [Op.operands, Call.operands])
      simp only [vcOp] at h ⊢
      rw [hf, ev_list ha] at h
      unfold callK at h ⊢
      split at h
      · rcases h with ⟨r, h1, h2⟩ | ⟨as, Ts, rest, ds, r, h1, h2, h3, h4, h5⟩ | ⟨t, e, sz, rows, h1, h2, h3, h4⟩ | h
        · rw [put_H, put_T] at h1
          exact .inl ⟨r, h1, hev s r fun _ _ => rfl, by rw [← put_comm s (x := x) (y := dst) d r fun t ht k => hd t k ht]; exact h2⟩
        · rw [put_T] at h1
          rw [put_H] at h3
          refine .inr (.inl ⟨as, Ts, rest, ds, r, h1, h2, h3, h4, fun e T' ho => ?_⟩)
          obtain ⟨Tn, k1, k2⟩ := h5 e T' ho
          exact ⟨Tn, k1, hev _ e fun _ _ => rfl, by rw [← hHN']; exact k2⟩
        · refine .inr (.inr (.inl ⟨t, e, sz, rows, h1, h2, h3, ?_⟩))
          subst h1
          refine ⟨hev _ _ fun _ _ => rfl, ?_⟩
          have e2 := hHN (newOb s t e sz rows.flatten).H (newOb s t e sz rows.flatten).n s.T (.ms t (s.n t) rows.length)
          have e3 : ({ s.put x d with H := (newOb s t e sz rows.flatten).H, n := (newOb s t e sz rows.flatten).n, T := s.T } : St) = newOb (s.put x d) t e sz rows.flatten := by
            rw [← (newOb_H put_H put_n t e sz rows.flatten).1, ← (newOb_H put_H put_n t e sz rows.flatten).2, ← put_T (s := s) (dst := x) (d := d)]
            rfl
          rw [e3] at e2
          rw [put_n] at h4
          exact e2 ▸ h4
        · refine .inr (.inr (.inr fun w0 M g a w env hr vs hl hv => ?_))
          have e0 : ({ s.put x d with env := env } : St) = { s with env := env } := by
            cases x <;> simp only [St.put]; split <;> rfl
          obtain ⟨q1, q2⟩ := h w0 M g a w env (by rw [e0]; exact hr) vs hl (by rw [put_n]; exact hv)
          refine ⟨q1, q2.mono fun e w' ⟨v, r, H, n, T, g', M', he, hr', hd', hK⟩ => ⟨v, r, H, n, T, g', M', he, ?_, hd', hev _ r fun _ _ => rfl, by rw [← hHN]; exact hK⟩⟩
          have e1 : ({ s.put x d with env := env, H := H, n := n, T := T } : St) = { s with env := env, H := H, n := n, T := T } := by
            cases x <;> simp only [St.put]; split <;> rfl
          rw [← e1]; exact hr'
      · exact h.elim
    case invoke => simp only [vcOp] at h ⊢; rw [stp hop] at h; exact put h
    case builtin b =>
      cases b
      case append =>
        cases dst with
        | none => exact h
        | some t => simp only [vcOp] at h ⊢; exact mem hop rfl h
      all_goals (simp only [vcOp] at h ⊢; rw [stp hop] at h; exact put h)
  case store => simp only [vcOp] at h ⊢; exact sto hop h
  case mapUpdate => simp only [vcOp] at h ⊢; exact sto hop h
  case box => cases dst with | none => exact h | some t => simp only [vcOp] at h ⊢; exact mem hop rfl h
  case alloc => cases dst with | none => exact h | some t => simp only [vcOp] at h ⊢; exact mem hop rfl h
  case makeMap => cases dst with | none => exact h | some t => simp only [vcOp] at h ⊢; exact mem hop rfl h
  case buildSlice => cases dst with | none => exact h | some t => simp only [vcOp] at h ⊢; exact mem hop rfl h
  case makeSlice => cases dst with | none => exact h | some t => simp only [vcOp] at h ⊢; exact mem hop rfl h
  all_goals (simp only [vcOp] at h ⊢; rw [stp hop] at h; exact put h)

theorem stepP_load {s s' : St} {t : TypeId} {x : Operand} (hev : s'.ev x = s.ev x) (hH : ∀ sl g o, s.ev x = .rf sl g o → s'.H sl = s.H sl) : stepP P s' (.load t x) = stepP P s (.load t x) := by
  simp only [stepP, stepPure]
  rw [hev]
  cases hx : s.ev x <;> simp only [loadD]
  rw [hH _ _ _ hx]
/-- An operation that touches no memory may be made behind one that does not wait for it. -/
theorem vcC_comm {oi oj : Oper} (hi : pureC oi.op = true) (hfr : pureC oj.op = true ∨ freL fre oi.op oi.dst = false) (hap : oi.apart ops oj = true) {K : St → Prop} {s : St} (h : vcOpC P mu prot fre oi.op oi.dst (vcOpC P mu prot fre oj.op oj.dst K) s) :
    vcOpC P mu prot fre oj.op oj.dst (vcOpC P mu prot fre oi.op oi.dst K) s := by
  obtain ⟨a1, a2, a3⟩ := Oper.apart_spec hap
  unfold vcOpC at h
  rw [if_pos hi] at h
  obtain ⟨hl, h⟩ := h
  cases hs : stepP P s oi.op with
  | none => rw [hs] at h; exact h.elim
  | some d =>
    rw [hs] at h
    have h : (if pureC oj.op = true then ldF (freL fre oj.op oj.dst) prot (s.put oi.dst d) oj.op ∧ putK (s.put oi.dst d) oj.dst K (stepP P (s.put oi.dst d) oj.op) else vcOp P mu oj.op oj.dst (fun s' => frC prot oj.dst (s.put oi.dst d) s' ∧ K s') (s.put oi.dst d)) := h
    have hopj : ∀ y ∈ oj.op.operands, (s.put oi.dst d).ev y = s.ev y := fun y hy => put_ev fun t ht hyt => a1 t ht (looks_ops hy hyt)
    have hopi : ∀ (s' : St), (∀ t, oj.dst ≠ some t → s'.env t = s.env t) → ∀ y ∈ oi.op.operands, s'.ev y = s.ev y := fun s' he y hy => by
      cases y with
      | tmp t => exact he t fun k => a3 t k (looks_ops hy rfl)
      | _ => rfl
    have again : ∀ (s' : St), (∀ t, oj.dst ≠ some t → s'.env t = s.env t) → (s'.H = s.H ∨ freL fre oi.op oi.dst = false ∧ ∀ sl ∈ prot, s'.H sl = s.H sl) → ldF (freL fre oi.op oi.dst) prot s' oi.op ∧ stepP P s' oi.op = some d := fun s' he hH => by
      have ho := hopi s' he
      rcases cls_pure hi with hc | hc
      · refine ⟨?_, by rw [stepP_congrA hc ho, hs]⟩
        have : freL fre oi.op oi.dst = false := by simp [freL, hc]
        rw [this]
        simp only [ldF]
        cases hop : oi.op <;> simp only [ldOk]
        rw [hop] at hc; simp [clsM] at hc
      · cases hop : oi.op with
        | load t x =>
          rw [hop] at ho hl hs hH
          have hx := ho x (by simp [Op.operands])
          rcases hH with hH | ⟨hf, hH⟩
          · refine ⟨?_, by rw [stepP_load hx fun sl g o e => by rw [hH], hs]⟩
            cases hb : freL fre (.load t x) oi.dst with
            | true => simp only [ldF]
            | false =>
              rw [hb] at hl
              simp only [ldF, ldOk] at hl ⊢
              rw [hx]; exact hl
          · rw [hf] at hl ⊢
            simp only [ldF, ldOk] at hl ⊢
            rw [hx]
            refine ⟨hl, ?_⟩
            rw [stepP_load hx fun sl g o e => hH sl (by rw [e] at hl; exact hl), hs]
        | call c =>
          have := cls_call c
          rw [hop] at hc
          omega
        | _ => rw [hop] at hc; simp only [clsM] at hc; first | exact absurd hc (by decide) | omega
    unfold vcOpC
    by_cases hj : pureC oj.op = true
    · rw [if_pos hj] at h ⊢
      obtain ⟨hlj, h⟩ := h
      refine ⟨?_, ?_⟩
      · cases hb : freL fre oj.op oj.dst with
        | true => simp only [ldF]
        | false =>
          rw [hb] at hlj
          simp only [ldF] at hlj ⊢
          cases hop : oj.op <;> simp only [ldOk] <;> try trivial
          rename_i t x
          rw [hop] at hlj hopj
          simp only [ldOk] at hlj
          rw [hopj x (by simp [Op.operands])] at hlj
          exact hlj
      · rw [stepP_congr put_H hopj] at h
        cases hsj : stepP P s oj.op with
        | none => rw [hsj] at h; exact h
        | some e =>
          rw [hsj] at h
          show (if pureC oi.op = true then _ else _)
          rw [if_pos hi]
          have he : ∀ t, oj.dst ≠ some t → (s.put oj.dst e).env t = s.env t := fun t ht => by
            have : (s.put oj.dst e).ev (.tmp t) = s.ev (.tmp t) := put_ev fun u hu k => by cases k; exact ht hu
            exact this
          obtain ⟨q1, q2⟩ := again (s.put oj.dst e) he (.inl put_H)
          refine ⟨q1, ?_⟩
          rw [q2]
          show K ((s.put oj.dst e).put oi.dst d)
          rw [← put_comm s (x := oi.dst) (y := oj.dst) d e a2]
          exact h
    · rw [if_neg hj] at h ⊢
      refine vcOp_mono (fun s' h' => ?_) (vcOp_put hopj (fun t ht k => a2 t k ht) h)
      obtain ⟨k1, ⟨k2, k3, k4⟩, k5⟩ := h'
      have hfr' : frC prot oj.dst s s' := by
        refine ⟨by rw [put_nt, put_nt] at k2; exact k2, fun t ht => ?_, fun sl hsl => ?_⟩
        · by_cases hx : oi.dst = some t
          · exact k1 t hx
          · have e1 := k3 t ht
            have e2 : (s'.put oi.dst d).ev (.tmp t) = s'.ev (.tmp t) := put_ev fun u hu k => by cases k; exact hx hu
            have e3 : (s.put oi.dst d).ev (.tmp t) = s.ev (.tmp t) := put_ev fun u hu k => by cases k; exact hx hu
            exact e2.symm.trans (e1.trans e3)
        · have := k4 sl hsl
          rw [put_H, put_H] at this
          exact this
      refine ⟨hfr', ?_⟩
      show (if pureC oi.op = true then _ else _)
      rw [if_pos hi]
      obtain ⟨q1, q2⟩ := again s' hfr'.2.1 (.inr ⟨hfr.resolve_left hj, hfr'.2.2⟩)
      exact ⟨q1, by rw [q2]; exact k5⟩

def anyC (P : Program) (mu prot fre : List Nat) (md : Region.Mode) (ops : Array Oper) (K : St → Prop) : Nat → Array Bool → St → Prop
  | 0, listed, s => Region.ready md ops listed = [] ∧ K s
  | fuel + 1, listed, s => (Region.ready md ops listed = [] → K s) ∧
    ∀ i ∈ Region.ready md ops listed, ∃ o, ops[i]? = some o ∧ vcOpC P mu prot fre o.op o.dst (anyC P mu prot fre md ops K fuel (listed.setIfInBounds i true)) s
theorem anyC_sound {w0 : Bs} (hg : (ops.all fun o => o.guard.isNone) = true) {K : St → Prop} {Q : Exit → Act → World → Prop} (hQ : ∀ a w, LK w0 K a w → Q .normal a w) : ∀ (fuel : Nat) (listed : Array Bool) {M : Nat → Prop} {g : Nat → Option (Nat × Nat × Nat)} {s : St} {a : Act} {w : World}, Rep w0 M g s a w → anyC P mu prot fre md ops K fuel listed s → wpAny P md ops Q fuel listed a w
  | 0, _, M, g, s, a, w, hr, h => ⟨h.1, hQ _ _ ⟨s, g, M, h.2, hr⟩⟩
  | fuel + 1, listed, M, g, s, a, w, hr, h => by
    refine ⟨fun e => hQ _ _ ⟨s, g, M, h.1 e, hr⟩, fun i hi => ?_⟩
    obtain ⟨o, ho, hn⟩ := h.2 i hi
    have hgo : o.guard = none := by
      have := Array.all_eq_true'.1 hg o (Array.mem_of_getElem? ho)
      simpa using this
    unfold wpOp
    simp only [ho]
    rw [if_pos (by simp [Region.wanted, hgo])]
    exact .inl (Oper.wp_mono (fun a w ⟨s', g', M', h1, h2⟩ => anyC_sound hg hQ fuel _ h2 h1) (vcOp_sound hr (vcOpC_vcOp hn)))
theorem anyC_first {K : St → Prop} {i : Nat} {oi : Oper} (hi : ops[i]? = some oi) : ∀ (fuel : Nat) (listed : Array Bool) (s : St),
    (∀ j oj, ops[j]? = some oj → listed.getD j false = true → ∀ e ∈ oj.after, Region.binds md e = true → listed.getD e.on false = true) →
    (∀ j oj, ops[j]? = some oj → j ≠ i → listed.getD j true = false → depM md ops ops.size j i = true ∨ (oi.apart ops oj = true ∧ pureC oi.op = true ∧ (pureC oj.op = true ∨ freL fre oi.op oi.dst = false))) →
    i ∈ Region.ready md ops listed → vcOpC P mu prot fre oi.op oi.dst (anyC P mu prot fre md ops K fuel (listed.setIfInBounds i true)) s → anyC P mu prot fre md ops K (fuel + 1) listed s := by
  intro fuel
  induction fuel with
  | zero =>
    intro listed s hcl hfree hr h
    refine ⟨fun e => (by rw [e] at hr; cases hr), fun j hj => ?_⟩
    by_cases hji : j = i
    · subst hji; exact ⟨oi, hi, h⟩
    · obtain ⟨hjun, oj, hoj, _⟩ := mem_ready.1 hj
      have hiun : listed.getD i false = false := by
        have := (mem_ready.1 hr).1
        by_cases h' : i < listed.size
        · simp [h'] at this ⊢; exact this
        · simp [Array.getElem?_eq_none (by omega : listed.size ≤ i)]
      rcases hfree j oj hoj hji hjun with hdep | ⟨hap, hc, hfr⟩
      · exact absurd hj (depM_free hcl hiun _ _ hdep).1
      · unfold vcOpC at h
        rw [if_pos hc] at h
        have hm := ready_mono hj hji
        cases hs : stepP P s oi.op with
        | none => rw [hs] at h; exact h.2.elim
        | some d =>
          rw [hs] at h
          have h2 : anyC P mu prot fre md ops K 0 (listed.setIfInBounds i true) (s.put oi.dst d) := h.2
          rw [h2.1] at hm; cases hm
  | succ fuel ih =>
    intro listed s hcl hfree hr h
    refine ⟨fun e => (by rw [e] at hr; cases hr), fun j hj => ?_⟩
    by_cases hji : j = i
    · subst hji; exact ⟨oi, hi, h⟩
    obtain ⟨hjun, oj, hoj, _⟩ := mem_ready.1 hj
    have hiun : listed.getD i false = false := by
      have := (mem_ready.1 hr).1
      by_cases h' : i < listed.size
      · simp [h'] at this ⊢; exact this
      · simp [Array.getElem?_eq_none (by omega : listed.size ≤ i)]
    rcases hfree j oj hoj hji hjun with hdep | ⟨hap, hc, hfr⟩
    · exact absurd hj (depM_free hcl hiun _ _ hdep).1
    · refine ⟨oj, hoj, ?_⟩
      have h1 : vcOpC P mu prot fre oi.op oi.dst (vcOpC P mu prot fre oj.op oj.dst (anyC P mu prot fre md ops K fuel ((listed.setIfInBounds i true).setIfInBounds j true))) s :=
        vcOpC_mono (fun s' h' => by
          obtain ⟨oj', hoj', h'⟩ := h'.2 j (ready_mono hj hji)
          rw [hoj] at hoj'; cases hoj'
          exact h') h
      have h2 := vcC_comm hc hfr hap h1
      refine vcOpC_mono (fun s' h' => ih (listed.setIfInBounds j true) s' (closed_set hcl hj) (fun k ok hk hki hun => ?_) (ready_mono hr (Ne.symm hji)) (by rw [Array.setIfInBounds_comm _ _ hji]; exact h')) h2
      refine hfree k ok hk hki ?_
      by_cases hjk : j = k
      · subst hjk; exact hjun
      · rw [getD_set_ne true hjk] at hun; exact hun
theorem anyC_lex {K : St → Prop} : ∀ (l : List Nat) (listed : Array Bool) (s : St),
    (∀ j oj, ops[j]? = some oj → listed.getD j false = true → ∀ e ∈ oj.after, Region.binds md e = true → listed.getD e.on false = true) →
    lexC md ops fre l listed = true → vcOpsC P mu prot fre (pickL ops.toList l) K s → anyC P mu prot fre md ops K l.length listed s
  | [], _, s, hcl, hB, h => ⟨by simpa [lexC] using hB, h⟩
  | k :: l, listed, s, hcl, hB, h => by
    simp only [lexC, Bool.and_eq_true] at hB
    obtain ⟨⟨hr, hf⟩, hB'⟩ := hB
    have hr' : k ∈ Region.ready md ops listed := by simpa using hr
    obtain ⟨_, o, h0, _⟩ := mem_ready.1 hr'
    have hpk : pickL ops.toList (k :: l) = o :: pickL ops.toList l := by
      simp [pickL, h0]
    rw [hpk] at h
    refine anyC_first h0 l.length listed s hcl (fun j oj hoj hjk hun => ?_) hr' (vcOpC_mono (fun s' h' => anyC_lex l _ s' (closed_set hcl hr') hB' h') h)
    rw [List.all_eq_true] at hf
    have := hf j (List.mem_range.2 (Array.getElem?_eq_some_iff.1 hoj).1)
    simp only [h0, hoj, Bool.or_eq_true, Bool.and_eq_true, beq_iff_eq, Bool.not_eq_true'] at this
    rcases this with ((h | h) | h) | h
    · rw [hun] at h; cases h
    · exact absurd h hjk
    · exact .inl h
    · exact .inr ⟨h.1.1, h.1.2, h.2⟩
end
def opsCK (P : Program) (mu prot fre : List Nat) (l : List Oper) (K : St → Prop) : St → Prop := vcOpsC P mu prot fre l K
theorem opsCK_eq {P : Program} {mu prot fre : List Nat} {l : List Oper} {K : St → Prop} {s : St} : opsCK P mu prot fre l K s = vcOpsC P mu prot fre l K s := Eq.trans rfl rfl
theorem opsC_nil {P : Program} {mu prot fre : List Nat} {K : St → Prop} {s : St} : vcOpsC P mu prot fre [] K s = K s := Eq.trans rfl rfl
def opCK (P : Program) (mu prot : List Nat) (pu fr : Bool) (op : Op) (dst : Option Nat) (K : St → Prop) (s : St) : Prop :=
  if pu = true then ldF fr prot s op ∧ putK s dst K (stepP P s op) else vcOp P mu op dst (fun s' => frC prot dst s s' ∧ K s') s
theorem opsC_cons {P : Program} {mu prot fre : List Nat} {K : St → Prop} {s : St} {d : Option Nat} {op : Op} {ty : TypeId} {pos : String} {af : Array Edge} {gd : Option (Nat × Bool)} {rest : List Oper} : vcOpsC P mu prot fre (⟨d, op, ty, pos, af, gd⟩ :: rest) K s = opCK P mu prot (pureC op) (freL fre op d) op d (opsCK P mu prot fre rest K) s := Eq.trans rfl rfl
theorem opCK_tt {P : Program} {mu prot : List Nat} {op : Op} {dst : Option Nat} {K : St → Prop} {s : St} : opCK P mu prot true true op dst K s = putK s dst K (stepP P s op) := by simp [opCK, ldF]
theorem opCK_tf {P : Program} {mu prot : List Nat} {op : Op} {dst : Option Nat} {K : St → Prop} {s : St} : opCK P mu prot true false op dst K s = (ldOk prot s op ∧ putK s dst K (stepP P s op)) := by simp [opCK, ldF]
theorem opCK_ff {P : Program} {mu prot : List Nat} {fr : Bool} {op : Op} {dst : Option Nat} {K : St → Prop} {s : St} : opCK P mu prot false fr op dst K s = vcOp P mu op dst (fun s' => frC prot dst s s' ∧ K s') s := by simp [opCK]
theorem frC_put {prot : List Nat} {t nt : Nat} {e : Nat → D} {H H' : Nat → Option Ob} {n n' : Nat → Nat} {T T' : List TE} {d : D} : frC prot (some t) ⟨e, H, n, nt, T⟩ ⟨setE e t d, H', n', nt, T'⟩ = ∀ sl ∈ prot, H' sl = H sl := by
  apply propext
  constructor
  · exact fun h => h.2.2
  · exact fun h => ⟨rfl, fun u hu => by simp only [setE]; rw [if_neg]; rintro rfl; exact hu rfl, h⟩
theorem frC_none {prot : List Nat} {nt : Nat} {e : Nat → D} {H H' : Nat → Option Ob} {n n' : Nat → Nat} {T T' : List TE} : frC prot none ⟨e, H, n, nt, T⟩ ⟨e, H', n', nt, T'⟩ = ∀ sl ∈ prot, H' sl = H sl := by
  apply propext
  exact ⟨fun h => h.2.2, fun h => ⟨rfl, fun _ _ => rfl, h⟩⟩
/-- The rule: the walk in the order told. -/
theorem drawX_intro {P : Program} {mu : List Nat} {ops : Array Oper} {K : St → Prop} {s : St} (l prot fre : List Nat) (h1 : P.follows .mixedOrders = true) (h2 : chnB ops fre l = true) (h : opsCK P mu prot fre (pickL ops.toList l) K s) : drawX P ops K s := by
  refine ⟨h1, fun w0 M g a w Q hQ hr => ?_⟩
  simp only [chnB, Bool.and_eq_true, beq_iff_eq] at h2
  refine anyC_sound (mu := mu) (prot := prot) (fre := fre) h2.2 (K := K) (fun a w ⟨s, g, M, k1, k2⟩ => hQ a w ⟨s, g, M, k1, k2⟩) _ _ hr ?_
  have := anyC_lex (P := P) (mu := mu) (prot := prot) (fre := fre) (md := .any) (ops := ops) (K := K) l (Array.replicate ops.size false) s (fun j oj _ hl => by rw [getD_repF] at hl; cases hl) h2.1.2 h
  rw [h2.1.1] at this
  exact this
theorem drawM_chain {P : Program} {mu : List Nat} {ops : Array Oper} {K : St → Prop} {s : St} (l prot fre : List Nat) (h1 : P.follows .mixedOrders = true) (h2 : chnB ops fre l = true) (h : opsCK P mu prot fre (pickL ops.toList l) K s) : drawM P mu ops K s := .inr (drawX_intro l prot fre h1 h2 h)
theorem drawK_chain {P : Program} {ops : Array Oper} {p : Prop} {K : St → Prop} {s : St} (l prot fre : List Nat) (h1 : P.follows .mixedOrders = true) (h2 : chnB ops fre l = true) (h : opsCK P [] prot fre (pickL ops.toList l) K s) : drawK P ops p K s := .inr (drawX_intro l prot fre h1 h2 h)
end Go.Fw
