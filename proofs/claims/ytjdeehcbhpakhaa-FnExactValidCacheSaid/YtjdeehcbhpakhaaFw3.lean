/-
  The walk over data: a statement's weakest condition over values without memory, its soundness, and a function's contract out of it. No condition.
-/
import Derived.Test.YtjdeehcbhpakhaaFw2
namespace Go.Fw
open Go.RowKit

/-! ### Calls -/
/-- A call over data: the arguments as they are, or as they read while nobody writes them (where the answer holds no memory). -/
def CallOk (P : Program) (H : Nat → Option Ob) (f : FuncId) (as : List D) (r : D) : Prop :=
  (Sp P f as r ∧ ∀ (i : Nat) (d : D), as[i]? = some d → Cl d) ∨
  ∃ bs : List D, bs.length = as.length ∧ (∀ (i : Nat) (d e : D), as[i]? = some d → bs[i]? = some e → Fz H d e) ∧ Sp P f bs r ∧ (detD r).isSome = true
def callK (P : Program) (s : St) (f : D) (args : List D) (dst : Option Nat) (K : St → Prop) : Prop :=
  match f with
  | .fn g first caps => ∃ r, CallOk P s.H g (first ++ args ++ caps) r ∧ K (s.put dst r)
  | _ => False
/-- A call in a region that draws its order. -/
def callQ (P : Program) (s : St) (f : D) (args : List D) (dst : Option Nat) (K : St → Prop) : Prop :=
  match f with
  | .fn g first caps => ∃ r, CallOk P s.H g (first ++ args ++ caps) r ∧ K (s.put dst r)
  | _ => False

def putK (s : St) (dst : Option Nat) (K : St → Prop) : Option D → Prop
  | some d => K (s.put dst d)
  | none => False
def memK (dst : Nat) (K : St → Prop) : Option (Prop × St × D) → Prop
  | some (p, s1, d) => p ∧ K (s1.put (some dst) d)
  | none => False
def stoK (dst : Option Nat) (K : St → Prop) : Option (Prop × St) → Prop
  | some (p, s1) => p ∧ K (s1.put dst (.sc (.tuple #[])))
  | none => False

def vcOp (P : Program) (mu : List Nat) (op : Op) (dst : Option Nat) (K : St → Prop) (s : St) : Prop :=
  match op with
  | .call c => match c.callee with
    | .value f => callK P s (s.ev f) (c.args.toList.map s.ev) dst K
    | .builtin .append => match dst with | some t => memK t K (stepMem P mu s t (.call c)) | none => False
    | _ => putK s dst K (stepP P s (.call c))
  | .store ty x y => stoK dst K (stepStore P s (.store ty x y))
  | .box e x => match dst with | some t => memK t K (stepMem P mu s t (.box e x)) | none => False
  | .alloc e => match dst with | some t => memK t K (stepMem P mu s t (.alloc e)) | none => False
  | .buildSlice ty l ps => match dst with | some t => memK t K (stepMem P mu s t (.buildSlice ty l ps)) | none => False
  | .makeSlice ty l c => match dst with | some t => memK t K (stepMem P mu s t (.makeSlice ty l c)) | none => False
  | op => putK s dst K (stepP P s op)
def vcOpQ (P : Program) (op : Op) (dst : Option Nat) (K : St → Prop) (s : St) : Prop :=
  match op with
  | .call c => match c.callee with
    | .value f => callQ P s (s.ev f) (c.args.toList.map s.ev) dst K
    | _ => putK s dst K (stepP P s (.call c))
  | op => putK s dst K (stepP P s op)

/-- where a guard looks -/
def guardD (ds : List (Option Nat)) (s : St) (j : Nat) : D := match ds[j]? with | some (some t) => if t < s.nt then s.env t else .any | _ => .any
def dsts (l : List Oper) : List (Option Nat) := l.map (·.dst)
def guardK (d : D) (want : Bool) (run skip : St → Prop) (s : St) : Prop :=
  match d with
  | .sc (.bool b) => if b = want then run s else skip s
  | .sc (.tuple _) => skip s
  | _ => False
def skipK (dst : Option Nat) (K : St → Prop) (s : St) : Prop := K (s.put dst (.sc (.tuple #[])))
def vcOps (P : Program) (mu : List Nat) (ops : List (Option Nat)) : List Oper → (St → Prop) → St → Prop
  | [], K, s => K s
  | o :: rest, K, s =>
    match o.guard with
    | none => vcOp P mu o.op o.dst (vcOps P mu ops rest K) s
    | some (j, want) => guardK (guardD ops s j) want (vcOp P mu o.op o.dst (vcOps P mu ops rest K)) (skipK o.dst (vcOps P mu ops rest K)) s
def vcOpsQ (P : Program) (ops : List (Option Nat)) : List Oper → (St → Prop) → St → Prop
  | [], K, s => K s
  | o :: rest, K, s =>
    match o.guard with
    | none => vcOpQ P o.op o.dst (vcOpsQ P ops rest K) s
    | some (j, want) => guardK (guardD ops s j) want (vcOpQ P o.op o.dst (vcOpsQ P ops rest K)) (skipK o.dst (vcOpsQ P ops rest K)) s

def thenQ (next : St → Prop) (Q : Exit → St → Prop) : Exit → St → Prop
  | .normal, s => next s
  | e, s => Q e s
def blockQ (id : Nat) (Q : Exit → St → Prop) : Exit → St → Prop
  | .exit id', s => if id' = id then Q .normal s else Q (.exit id') s
  | e, s => Q e s
def condK (d : D) (X Y : St → Prop) (s : St) : Prop :=
  match d with
  | .sc (.bool b) => (b = true → X s) ∧ (b = false → Y s)
  | _ => False
def drawK (P : Program) (ops : Array Oper) (p : Prop) : Prop := P.follows .mixedOrders = true ∧ Region.lexB .any ops = true ∧ p
def iterK (F : (St → Prop) → St → Prop) : Nat → St → Prop
  | 0 => fun _ => False
  | n + 1 => F (iterK F n)
def loopK (F : (St → Prop) → St → Prop) (s : St) : Prop := ∃ n, iterK F n s

def loopQ (F : (Exit → St → Prop) → St → Prop) (Q : Exit → St → Prop) (s : St) : Prop := loopK (fun I => F (thenQ I Q)) s

def vc (P : Program) (mu : List Nat) : Code → (Exit → St → Prop) → St → Prop
  | .skip, Q, s => Q .normal s
  | .region _ ops draw, Q, s => if draw then drawK P ops (vcOpsQ P (dsts ops.toList) ops.toList (Q .normal) s) else vcOps P mu (dsts ops.toList) ops.toList (Q .normal) s
  | .seq a b, Q, s => vc P mu a (thenQ (vc P mu b Q) Q) s
  | .cond c x y, Q, s => condK (s.ev c) (vc P mu x Q) (vc P mu y Q) s
  | .block id c, Q, s => vc P mu c (blockQ id Q) s
  | .loop c, Q, s => loopQ (vc P mu c) Q s
  | .exit id, Q, s => Q (.exit id) s
  | .ret, Q, s => Q .ret s
  | _, _, _ => False

/-! ### Soundness -/
section
variable {P : Program} {w0 : World} {M : Nat → Prop} {g : Nat → Option (Nat × Nat × Nat)} {s : St} {a : Act} {w : World}

theorem stepStore_sound (hr : Rep w0 M g s a w) {o : Oper} {p : Prop} {s1 : St} (h : stepStore P s o.op = some (p, s1)) (hp : p) :
    ∃ w', (execOp a.eval o).run P w = .ok .skip w' ∧ Rep w0 M g s1 a w' := by
  unfold stepStore at h
  split at h
  · rename_i ty x y ho
    split at h
    · rename_i t gn off cs n hx hcs hn
      split at h
      · rename_i ob hob
        split at h
        · rename_i hgen
          cases h
          obtain ⟨p1, p2, p3⟩ := hp
          have hxv := hr.ev x; rw [hx] at hxv
          generalize hxe : a.eval x = vx at hxv
          cases hxv with | rf _ _ _ ad hg hxv =>
          obtain ⟨hg', b, c, vs, hgt, hheap, hvs, hcm, hlen, hcells⟩ := hr.obj t ob hob
          have := hxv b c (by rw [← hgen]; exact hgt)
          subst this
          obtain ⟨k1, k2⟩ := cells_rd hcs (hr.ev y)
          have hone : ∀ v ∈ (a.eval y).cells.toList, v.oneCell' = true := by
            intro v hv
            obtain ⟨j, hj, rfl⟩ := List.getElem_of_mem hv
            have hjc : j < cs.length := by simpa [k1] using hj
            obtain ⟨u, q1, q2⟩ := k2 j _ (List.getElem?_eq_getElem hjc)
            have : u = (a.eval y).cells.toList[j] := by
              have h1 : (a.eval y).cells.toList[j]? = some u := by simpa using q1
              rw [List.getElem?_eq_getElem hj] at h1; exact (Option.some.inj h1).symm
            rw [← this]
            exact one_rd (List.all_eq_true.1 p3 _ (List.getElem_mem hjc)) q2
          have hfit : off + 0 + (a.eval y).cells.toList.length ≤ vs.size := by simp; omega
          have hst := run_storeCells_at P b off ob.elem (a.eval y).cells.toList 0 vs w hheap hfit hone
          simp only [Nat.add_zero] at hst hfit
          have hsize : (vs.toList.take off ++ (a.eval y).cells.toList ++ vs.toList.drop (off + (a.eval y).cells.toList.length)).toArray.size = vs.size := by simp at hfit ⊢; omega
          have htk : (vs.toList.take off).length = off := by simp at hfit ⊢; omega
          refine ⟨w.setRow b (vs.toList.take off ++ (a.eval y).cells.toList ++ vs.toList.drop (off + (a.eval y).cells.toList.length)).toArray, ?_, ?_⟩
          · have hne : ¬ (a.eval y).cells.size ≠ n := by omega
            simp only [execOp, ho, hxe, Instr.storeAt, Instr.sureAddr, storeVar, Sem.run_bind, Sem.run_pure, Result.andThen_ok, szOf_some hn]
            rw [if_neg hne, hst]
            rfl
          · refine (hr.write t b c _ ob { ob with cells := setR ob.cells off cs } hob hgt rfl (fun k hk => setRow_other w b k _ hk) (setRow_heap w b vs _ _ _ hheap) (by rw [hsize]; exact hvs) hcm ?_ (fun j d hj => ?_) rfl rfl rfl (by simp)).1
            · rw [hsize]; show (setR ob.cells off cs).length ≤ _; rw [setR_length _ _ _ p2]; exact hlen
            · have hj' : (setR ob.cells off cs)[j]? = some d := hj
              rw [setR_get _ _ _ _ p2] at hj'
              rw [List.getElem?_toArray]
              by_cases hin : off ≤ j ∧ j < off + cs.length
              · rw [if_pos hin] at hj'
                obtain ⟨u, q1, q2⟩ := k2 _ d hj'
                refine ⟨u, ?_, q2⟩
                rw [List.append_assoc, List.getElem?_append_right (by omega), htk, List.getElem?_append_left (by simp; omega)]
                simpa using q1
              · rw [if_neg hin] at hj'
                obtain ⟨u, q1, q2⟩ := hcells j d hj'
                refine ⟨u, ?_, q2⟩
                have hjl := (Array.getElem?_eq_some_iff.1 q1).1
                by_cases hlt : j < off
                · rw [List.append_assoc, List.getElem?_append_left (by omega), List.getElem?_take, if_pos hlt]; simpa using q1
                · rw [List.getElem?_append_right (by simp; omega), List.getElem?_drop]
                  have : off + (a.eval y).cells.toList.length + (j - (vs.toList.take off ++ (a.eval y).cells.toList).length) = j := by simp; omega
                  rw [this]; simpa using q1
        · cases h
      · cases h
    · cases h
  · cases h
end

section
variable {P : Program} {w0 : World} {M : Nat → Prop} {g : Nat → Option (Nat × Nat × Nat)} {s : St} {a : Act} {w : World}

theorem det_any {V V' : View} {d : D} {v : Value} (h : (detD d).isSome = true) (k : Rd V d v) : Rd V' d v := by
  cases k <;> simp [detD] at h
  · exact .sc _
  · rename_i ds vs hl hv
    obtain ⟨us, hus⟩ := Option.isSome_iff_exists.1 h
    refine .tp ds vs hl fun i d v hd hv' => ?_
    have key : ∀ (ds : List D) (us : List Value), ds.mapM scV = some us → ∀ (i : Nat) (d : D), ds[i]? = some d → ∃ u, d = .sc u := by
      intro ds
      induction ds with
      | nil => intro us _ i d h; simp at h
      | cons e ds ih =>
        intro us h i d hi
        rw [List.mapM_cons] at h
        simp only [Option.bind_eq_bind, Option.bind_eq_some_iff, Option.pure_def, Option.some.injEq] at h
        obtain ⟨u, hu, us', hus, rfl⟩ := h
        cases i with
        | zero =>
          simp at hi; subst hi
          cases e <;> simp [scV] at hu
          exact ⟨_, rfl⟩
        | succ i => exact ih us' hus i d (by simpa using hi)
    obtain ⟨u, rfl⟩ := key ds us hus i d hd
    have := hv i _ v hd hv'
    cases this
    exact .sc _

theorem callOk_sound (hr : Rep w0 M g s a w) {f : FuncId} {as : List D} {r : D} (h : CallOk P s.H f as r) {vs : List Value} (hl : as.length = vs.length)
    (hv : ∀ (i : Nat) (d : D) (v : Value), as[i]? = some d → vs[i]? = some v → Rd (view w M g s.n) d v) :
    callable P f ∧ Calls P f vs.toArray w fun e w' => ∃ v, e = .returned v ∧ Below w.heap.size w w' ∧ Rd (view w' M g s.n) r v := by
  rcases h with ⟨h, hcl⟩ | ⟨bs, hbl, hfz, h, hdet⟩
  · refine ⟨h.ok, (h.run w (fun b => M b ∨ ∃ t x c, g t = some (x, b, c)) vs ?_ hl fun i d v hd hv' => ?_).mono fun e w' ⟨v, he, hb, hR⟩ => ⟨v, he, hb, hR.mono ?_⟩⟩
    · rintro b (k | ⟨t, x, c, k⟩)
      · have := hr.m0 b k; have := hr.below.size; omega
      · exact (hr.base _ _ _ _ k).2
    · refine (hv i d v hd hv').closed (fun b o u e => ?_) (hcl i d hd)
      obtain ⟨k1, k2⟩ := view_free e
      exact view_mk (view_cell e) (fun k => k.elim k1 fun ⟨t, x, c, k⟩ => k2 _ _ _ k) (by simp)
    · refine ⟨fun b o u e => ?_, Nat.zero_le _, fun s x b c hx e => absurd hx (Nat.not_lt_zero _)⟩
      obtain ⟨k1, _⟩ := view_free e
      exact view_mk (view_cell e) (fun k => k1 (.inl k)) fun t x c k => k1 (.inr ⟨t, x, c, k⟩)
  · refine ⟨h.ok, (h.run w M vs ?_ (by omega) fun i e v he hv' => ?_).mono fun e w' ⟨v, he, hb, hR⟩ => ⟨v, he, hb, det_any hdet hR⟩⟩
    · intro b k; have := hr.m0 b k; have := hr.below.size; omega
    · have hi : i < as.length := by rw [← hbl]; exact (List.getElem?_eq_some_iff.1 he).1
      exact Rd.freeze hr (hfz i _ e (List.getElem?_eq_getElem hi) he) (hv i _ v (List.getElem?_eq_getElem hi) hv')

theorem call_exec {o : Oper} {c : Call} {fo : Operand} {f : FuncId} {first caps : List Value} (ho : o.op = .call c) (hc : c.callee = .value fo) (hf : a.eval fo = .func (.func f) first.toArray caps.toArray) (hcal : callable P f) (w : World) :
    (execOp a.eval o).run P w = .ok (.enter f (first ++ c.args.toList.map a.eval ++ caps).toArray) w := by
  obtain ⟨fn, h1, h2, h3⟩ := hcal
  have e : (first.toArray ++ c.args.map a.eval ++ caps.toArray) = (first ++ c.args.toList.map a.eval ++ caps).toArray := by
    apply Array.ext'; simp
  have h2' : fn.name ≠ "runtime.NumGoroutine" := by simpa using h2
  have h3' : fn.body ≠ none := by intro k; rw [k] at h3; cases h3
  have hcf : (callFunc f (first ++ c.args.toList.map a.eval ++ caps).toArray).run P w = .ok (.enter f (first ++ c.args.toList.map a.eval ++ caps).toArray) w := by
    simp [callFunc, h1, h2', h3']
  simp only [execOp, ho, Sem.run_bind, resolve, hc, hf, Deferred.ofValue, Sem.run_pure, Result.andThen_ok, invoke]
  rw [e]
  exact hcf

/-- What stands behind, over states of the machine. -/
def LQ (w0 : World) (M : Nat → Prop) (Q : Exit → St → Prop) : Exit → Act → World → Prop := fun e a w => ∃ s g, Q e s ∧ Rep w0 M g s a w
def LK (w0 : World) (M : Nat → Prop) (K : St → Prop) : Act → World → Prop := fun a w => ∃ s g, K s ∧ Rep w0 M g s a w

theorem fn_lists {V : View} {f : FuncId} {first caps : List D} {v : Value} (h : Rd V (.fn f first caps) v) : ∃ us ws : List Value, v = .func (.func f) us.toArray ws.toArray ∧ first.length = us.length ∧ caps.length = ws.length ∧
    (∀ (i : Nat) (d : D) (v : Value), first[i]? = some d → us[i]? = some v → Rd V d v) ∧ ∀ (i : Nat) (d : D) (v : Value), caps[i]? = some d → ws[i]? = some v → Rd V d v := by
  cases h with | fn _ _ _ us ws h1 h2 h3 h4 => exact ⟨us, ws, rfl, h1, h2, h3, h4⟩
theorem app_lists {V : View} {as bs : List D} {us vs : List Value} (h1 : as.length = us.length) (h2 : ∀ (i : Nat) (d : D) (v : Value), as[i]? = some d → us[i]? = some v → Rd V d v)
    (h3 : bs.length = vs.length) (h4 : ∀ (i : Nat) (d : D) (v : Value), bs[i]? = some d → vs[i]? = some v → Rd V d v) :
    (as ++ bs).length = (us ++ vs).length ∧ ∀ (i : Nat) (d : D) (v : Value), (as ++ bs)[i]? = some d → (us ++ vs)[i]? = some v → Rd V d v := by
  refine ⟨by simp [h1, h3], fun i d v hd hv => ?_⟩
  by_cases hi : i < as.length
  · rw [List.getElem?_append_left hi] at hd
    rw [List.getElem?_append_left (by omega)] at hv
    exact h2 i d v hd hv
  · rw [List.getElem?_append_right (by omega)] at hd hv
    rw [h1] at hd
    exact h4 _ d v hd hv

theorem putK_sound (hr : Rep w0 M g s a w) {o : Oper} {K : St → Prop} {Q : Exit → Act → World → Prop} (h : putK s o.dst K (stepP P s o.op)) : o.wp P a w (LK w0 M K) Q := by
  cases hs : stepP P s o.op with
  | none => rw [hs] at h; exact h.elim
  | some d =>
    rw [hs] at h
    obtain ⟨v, h1, h2⟩ := stepP_sound hr hs
    have := h2 w (Below.refl _ _)
    simp only [Oper.wp, this, Oper.upon_value]
    exact ⟨_, g, h, hr.put h1 _⟩
theorem memK_sound (hr : Rep w0 M g s a w) {mu : List Nat} {o : Oper} {t : Nat} (ht : o.dst = some t) {K : St → Prop} {Q : Exit → Act → World → Prop} (h : memK t K (stepMem P mu s t o.op)) : o.wp P a w (LK w0 M K) Q := by
  cases hs : stepMem P mu s t o.op with
  | none => rw [hs] at h; exact h.elim
  | some x =>
    obtain ⟨p, s1, d⟩ := x
    rw [hs] at h
    obtain ⟨v, w', g', h1, h2, h3⟩ := stepMem_sound hr hs h.1
    simp only [Oper.wp, h1, Oper.upon_value]
    exact ⟨_, g', h.2, by rw [ht]; exact h2.put h3 _⟩

theorem vcOp_sound (hr : Rep w0 M g s a w) {mu : List Nat} {o : Oper} {K : St → Prop} {Q : Exit → Act → World → Prop} (h : vcOp P mu o.op o.dst K s) : o.wp P a w (LK w0 M K) Q := by
  obtain ⟨dst, op, ty, pos, after, guard⟩ := o
  cases op
  case call c =>
    obtain ⟨callee, args, argTypes⟩ := c
    cases callee
    case value f =>
      simp only [vcOp] at h
      have hf := hr.ev f
      unfold callK at h
      split at h
      · rename_i g' first caps hfe
        rw [hfe] at hf
        obtain ⟨us, ws, e, l1, l2, r1, r2⟩ := fn_lists hf
        obtain ⟨r, hc, hK⟩ := h
        obtain ⟨l3, r3⟩ := list_sound hr args.toList
        obtain ⟨l4, r4⟩ := app_lists l1 r1 l3 r3
        obtain ⟨l5, r5⟩ := app_lists l4 r4 l2 r2
        obtain ⟨hcal, hcalls⟩ := callOk_sound hr hc l5 r5
        have hex := call_exec (a := a) (o := ⟨dst, .call ⟨.value f, args, argTypes⟩, ty, pos, after, guard⟩) rfl rfl e hcal w
        simp only [Oper.wp, hex, Oper.upon_enter]
        refine hcalls.mono fun e' w' ⟨v, he, hb, hR⟩ => ?_
        subst he
        exact ⟨_, g, hK, (hr.grow hb).put hR _⟩
      · exact h.elim
    case invoke => exact putK_sound hr h
    case builtin b =>
      cases b
      case append =>
        simp only [vcOp] at h
        cases dst with
        | none => exact h.elim
        | some t => exact memK_sound hr (o := ⟨some t, .call ⟨.builtin .append, args, argTypes⟩, ty, pos, after, guard⟩) rfl h
      all_goals exact putK_sound hr h
  case store ty' x y =>
    simp only [vcOp] at h
    cases hs : stepStore P s (.store ty' x y) with
    | none => rw [hs] at h; exact h.elim
    | some q =>
      obtain ⟨p, s1⟩ := q
      rw [hs] at h
      obtain ⟨w', h1, h2⟩ := stepStore_sound hr (o := ⟨dst, .store ty' x y, ty, pos, after, guard⟩) hs h.1
      simp only [Oper.wp, h1, Oper.upon_skip]
      exact ⟨_, g, h.2, h2.put (.sc undef) dst⟩
  case box e x =>
    simp only [vcOp] at h
    cases dst with
    | none => exact h.elim
    | some t => exact memK_sound hr (o := ⟨some t, .box e x, ty, pos, after, guard⟩) rfl h
  case alloc e =>
    simp only [vcOp] at h
    cases dst with
    | none => exact h.elim
    | some t => exact memK_sound hr (o := ⟨some t, .alloc e, ty, pos, after, guard⟩) rfl h
  case buildSlice e l ps =>
    simp only [vcOp] at h
    cases dst with
    | none => exact h.elim
    | some t => exact memK_sound hr (o := ⟨some t, .buildSlice e l ps, ty, pos, after, guard⟩) rfl h
  case makeSlice e l c =>
    simp only [vcOp] at h
    cases dst with
    | none => exact h.elim
    | some t => exact memK_sound hr (o := ⟨some t, .makeSlice e l c, ty, pos, after, guard⟩) rfl h
  all_goals exact putK_sound hr h

theorem guard_sound (hr : Rep w0 M g s a w) {ops : Array Oper} {j : Nat} {want : Bool} {run skip : St → Prop} (h : guardK (guardD (dsts ops.toList) s j) want run skip s) :
    ((yielded ops a.tmps j == some want) = true ∧ run s) ∨ ((yielded ops a.tmps j == some want) = false ∧ skip s) := by
  unfold guardD at h
  have hds : (dsts ops.toList)[j]? = (ops[j]?).map (·.dst) := by simp [dsts]
  rw [hds] at h
  cases hd : (ops[j]?).bind (·.dst) with
  | none =>
    cases ho : ops[j]? with
    | none => rw [ho] at h; exact h.elim
    | some o =>
      rw [ho] at h hd
      simp only [Option.bind_some] at hd
      simp only [Option.map_some, hd] at h
      exact h.elim
  | some t =>
    cases ho : ops[j]? with
    | none => rw [ho] at hd; cases hd
    | some o =>
    rw [ho] at h
    have hd' := hd
    rw [ho] at hd'
    simp only [Option.bind_some] at hd'
    simp only [Option.map_some, hd'] at h
    by_cases ht : t < s.nt
    · rw [if_pos ht] at h
      have hs : t < a.tmps.size := by rw [hr.size]; exact ht
      have hR := hr.env t
      have e1 : a.tmps[t]? = some (a.tmps.getD t undef) := by simp [Array.getD_eq_getD_getElem?, hs]
      generalize a.tmps.getD t undef = v at hR e1
      generalize hsd : s.env t = d at h hR
      unfold guardK at h
      split at h
      · rename_i b
        cases hR
        have hy : yielded ops a.tmps j = some b := by simp [yielded, hd, e1]
        rw [hy]
        by_cases hb : b = want
        · rw [if_pos hb] at h; exact .inl ⟨by simp [hb], h⟩
        · rw [if_neg hb] at h; exact .inr ⟨by simp [hb], h⟩
      · cases hR
        have hy : yielded ops a.tmps j = none := by simp [yielded, hd, e1]
        rw [hy]
        exact .inr ⟨by rfl, h⟩
      · exact h.elim
    · rw [if_neg ht] at h; exact h.elim

theorem vcOps_sound {mu : List Nat} {ops : Array Oper} {K : St → Prop} {Q : Exit → Act → World → Prop} (hQ : ∀ a w, LK w0 M K a w → Q .normal a w) :
    ∀ (l : List Oper) {g : Nat → Option (Nat × Nat × Nat)} {s : St} {a : Act} {w : World}, Rep w0 M g s a w → vcOps P mu (dsts ops.toList) l K s → wpList P ops Q l a w
  | [], g, s, a, w, hr, h => hQ a w ⟨s, g, h, hr⟩
  | o :: rest, g, s, a, w, hr, h => by
    simp only [vcOps] at h
    unfold wpList
    have next : ∀ a' w', LK w0 M (vcOps P mu (dsts ops.toList) rest K) a' w' → wpList P ops Q rest a' w' := fun a' w' ⟨s', g', h1, h2⟩ => vcOps_sound hQ rest h2 h1
    have lift : ∀ {K' : St → Prop}, o.wp P a w (LK w0 M (vcOps P mu (dsts ops.toList) rest K)) Q → o.wp P a w (wpList P ops Q rest) Q := fun hh => Oper.wp_mono next hh
    split at h
    · rename_i hg
      rw [if_pos (by simp [Region.wanted, hg])]
      exact .inl (lift (K' := K) (vcOp_sound hr h))
    · rename_i j want hg
      rcases guard_sound hr h with ⟨e, h⟩ | ⟨e, h⟩
      · rw [if_pos (by simp only [Region.wanted, hg]; exact e)]
        exact .inl (lift (K' := K) (vcOp_sound hr h))
      · rw [if_neg (by simp only [Region.wanted, hg]; rw [e]; simp)]
        exact vcOps_sound hQ rest (hr.put (.sc undef) o.dst) h
end

/-! ### A region that draws its order: operations that read and calls, each order like the text's -/
/-- what an operation yields, over data -/
def yieldP (P : Program) (s : St) (op : Op) (d : D) : Prop :=
  match op with
  | .call c => match c.callee with
    | .value f => match s.ev f with
      | .fn g first caps => CallOk P s.H g (first ++ c.args.toList.map s.ev ++ caps) d
      | _ => False
    | _ => stepP P s (.call c) = some d
  | op => stepP P s op = some d
def yieldG (P : Program) (ops : Array Oper) (s : St) (o : Oper) (d : D) : Prop :=
  match o.guard with
  | none => yieldP P s o.op d
  | some (j, want) => guardK (guardD (dsts ops.toList) s j) want (fun s => yieldP P s o.op d) (fun _ => d = .sc undef) s
/-- whatever order -/
def anyD (P : Program) (md : Region.Mode) (ops : Array Oper) (K : St → Prop) : Nat → Array Bool → St → Prop
  | 0, listed, s => Region.ready md ops listed = [] ∧ K s
  | fuel + 1, listed, s => (Region.ready md ops listed = [] → K s) ∧
    ∀ i ∈ Region.ready md ops listed, ∃ o, ops[i]? = some o ∧ ∃ d, yieldG P ops s o d ∧ anyD P md ops K fuel (listed.setIfInBounds i true) (s.put o.dst d)

section
variable {P : Program} {w0 : World} {M : Nat → Prop} {g : Nat → Option (Nat × Nat × Nat)} {s : St} {a : Act} {w : World} {md : Region.Mode} {ops : Array Oper}

theorem yieldP_sound (hr : Rep w0 M g s a w) {o : Oper} {d : D} {K : St → Prop} {Q : Exit → Act → World → Prop} (h : yieldP P s o.op d) (hK : K (s.put o.dst d)) : o.wp P a w (LK w0 M K) Q := by
  have put : stepP P s o.op = some d → o.wp P a w (LK w0 M K) Q := fun h => putK_sound hr (by rw [h]; exact hK)
  obtain ⟨dst, op, ty, pos, after, guard⟩ := o
  cases op
  case call c =>
    obtain ⟨callee, args, argTypes⟩ := c
    cases callee
    case value f =>
      refine vcOp_sound hr (mu := []) ?_
      simp only [yieldP] at h
      simp only [vcOp, callK]
      split at h
      · first | exact ⟨d, h, hK⟩ | (rename_i g' first caps hfe; rw [hfe]; exact ⟨d, h, hK⟩)
      · exact h.elim
    all_goals exact put h
  all_goals exact put h

theorem anyD_sound {K : St → Prop} {Q : Exit → Act → World → Prop} (hQ : ∀ a w, LK w0 M K a w → Q .normal a w) : ∀ (fuel : Nat) (listed : Array Bool) {g : Nat → Option (Nat × Nat × Nat)} {s : St} {a : Act} {w : World}, Rep w0 M g s a w → anyD P md ops K fuel listed s → wpAny P md ops Q fuel listed a w
  | 0, _, g, s, a, w, hr, h => ⟨h.1, hQ _ _ ⟨s, g, h.2, hr⟩⟩
  | fuel + 1, listed, g, s, a, w, hr, h => by
    refine ⟨fun e => hQ _ _ ⟨s, g, h.1 e, hr⟩, fun i hi => ?_⟩
    obtain ⟨o, ho, d, hy, hn⟩ := h.2 i hi
    have go : yieldP P s o.op d → o.wp P a w (wpAny P md ops Q fuel (listed.setIfInBounds i true)) Q := fun hy =>
      Oper.wp_mono (fun a w ⟨s', g', h1, h2⟩ => anyD_sound hQ fuel _ h2 h1) (yieldP_sound hr (K := anyD P md ops K fuel (listed.setIfInBounds i true)) hy hn)
    unfold wpOp
    simp only [ho]
    unfold yieldG at hy
    split at hy
    · rename_i hg
      rw [if_pos (by simp [Region.wanted, hg])]
      exact .inl (go hy)
    · rename_i j want hg
      rcases guard_sound hr hy with ⟨e, hy⟩ | ⟨e, hy⟩
      · rw [if_pos (by simp only [Region.wanted, hg]; exact e)]
        exact .inl (go hy)
      · rw [if_neg (by simp only [Region.wanted, hg]; rw [e]; simp)]
        subst hy
        exact anyD_sound hQ fuel _ (hr.put (.sc undef) o.dst) hn
end

/-! #### What a write to a temporary does not change -/
theorem put_ev {s : St} {dst : Option Nat} {d : D} {x : Operand} (h : ∀ t, dst = some t → x ≠ .tmp t) : (s.put dst d).ev x = s.ev x := by
  cases dst with
  | none => rfl
  | some t =>
    unfold St.put
    simp only
    split
    · cases x with
      | tmp u => simp only [St.ev, setE]; rw [if_neg]; intro e; subst e; exact h _ rfl rfl
      | _ => rfl
    · rfl
theorem put_H {s : St} {dst : Option Nat} {d : D} : (s.put dst d).H = s.H := by cases dst <;> simp only [St.put]; split <;> rfl
theorem put_nt {s : St} {dst : Option Nat} {d : D} : (s.put dst d).nt = s.nt := by cases dst <;> simp only [St.put]; split <;> rfl
theorem put_comm (s : St) {x y : Option Nat} (d e : D) (h : ∀ t, x = some t → y ≠ some t) : (s.put x d).put y e = (s.put y e).put x d := by
  cases x with
  | none => rfl
  | some t =>
    cases y with
    | none => rfl
    | some u =>
      have hne : t ≠ u := fun k => h t rfl (by rw [k])
      simp only [St.put]
      by_cases h1 : t < s.nt <;> by_cases h2 : u < s.nt <;> simp only [h1, h2, if_true, if_false]
      congr 1
      funext i
      simp only [setE]
      by_cases k1 : i = t <;> by_cases k2 : i = u <;> simp [k1, k2]
      · exact absurd (k1.symm.trans k2) hne
      all_goals (intro k; first | exact absurd k hne | exact absurd k.symm hne)
theorem ev_list {s s' : St} : ∀ {l : List Operand}, (∀ x ∈ l, s'.ev x = s.ev x) → l.map s'.ev = l.map s.ev := fun h => List.map_congr_left h
theorem loadD_congr {P : Program} {s s' : St} (hH : s'.H = s.H) {t : TypeId} {d : D} : loadD P s' t d = loadD P s t d := by cases d <;> simp only [loadD, hH]
theorem stepPure_congr {P : Program} {s s' : St} (hH : s'.H = s.H) {op : Op} (h : ∀ x ∈ op.operands, s'.ev x = s.ev x) : stepPure P s' op = stepPure P s op := by
  cases op <;> simp only [Op.operands] at h <;> simp only [stepPure]
  case call c =>
    obtain ⟨callee, args, argTypes⟩ := c
    have ha : ∀ x ∈ args.toList, s'.ev x = s.ev x := fun x hx => h x (by simp [Call.operands]; exact .inr (by simpa using hx))
    cases callee <;> simp only
    case builtin b =>
      cases b <;> simp only
      generalize args.toList = l at ha
      match l, ha with
      | [], _ => rfl
      | [x], ha => cases argTypes.toList with
        | nil => rfl
        | cons t ts => cases ts with
          | nil => simp only [ha x (by simp)]
          | cons => rfl
      | _ :: _ :: _, _ => rfl
  case makeFunc f first caps =>
    cases f <;> simp only
    rw [ev_list fun x hx => h x (by simp; exact .inl (by simpa using hx)), ev_list fun x hx => h x (by simp; exact .inr (by simpa using hx))]
  all_goals (first | rfl | (simp_all [loadD_congr hH]; done))
theorem parts_congr {s s' : St} : ∀ {l : List (Nat × Operand)}, (∀ x ∈ l.map (·.2), s'.ev x = s.ev x) → l.map (fun x => (x.1, s'.ev x.2)) = l.map (fun x => (x.1, s.ev x.2)) := fun h =>
  List.map_congr_left fun p hp => by rw [h p.2 (List.mem_map_of_mem hp)]
theorem stepP_congr {P : Program} {s s' : St} (hH : s'.H = s.H) {op : Op} (h : ∀ x ∈ op.operands, s'.ev x = s.ev x) : stepP P s' op = stepP P s op := by
  cases op
  case build t ps => simp only [stepP]; rw [parts_congr fun x hx => h x (by simpa [Op.operands] using hx)]
  case slice t x lo hi mx => simp only [Op.operands] at h; cases lo <;> cases hi <;> cases mx <;> simp_all [stepP]
  case call c =>
    have hp := stepPure_congr (P := P) hH h
    obtain ⟨callee, args, argTypes⟩ := c
    have ha : ∀ x ∈ args.toList, s'.ev x = s.ev x := fun x hx => h x (by simp [Op.operands, Call.operands]; exact .inr (by simpa using hx))
    simp only [stepP, hp]
    generalize args.toList = l at ha
    match callee, l, ha with
    | .builtin b, [x, y], ha => cases b <;> simp only [ha x (by simp), ha y (by simp)]
    | .builtin b, [], ha => cases b <;> rfl
    | .builtin b, [_], ha => cases b <;> rfl
    | .builtin b, _ :: _ :: _ :: _, ha => cases b <;> rfl
    | .value _, _, _ => rfl
    | .invoke _ _, _, _ => rfl
  all_goals exact stepPure_congr (P := P) hH h
theorem yieldP_congr {P : Program} {s s' : St} (hH : s'.H = s.H) {op : Op} {d : D} (h : ∀ x ∈ op.operands, s'.ev x = s.ev x) (k : yieldP P s op d) : yieldP P s' op d := by
  have hp := stepP_congr (P := P) hH h
  cases op
  case call c =>
    obtain ⟨callee, args, argTypes⟩ := c
    cases callee
    case value f =>
      have ha : ∀ x ∈ args.toList, s'.ev x = s.ev x := fun x hx => h x (by simp [Op.operands, Call.operands]; exact .inr (by simpa using hx))
      have hf : s'.ev f = s.ev f := h f (by simp [Op.operands, Call.operands])
      simp only [yieldP] at k ⊢
      rw [hf, ev_list ha, hH]
      exact k
    all_goals (simp only [yieldP] at k ⊢; rw [hp]; exact k)
  all_goals (simp only [yieldP] at k ⊢; rw [hp]; exact k)
theorem yieldG_put {P : Program} {ops : Array Oper} {s : St} {o : Oper} {d : D} {dst : Option Nat} {e : D} (h : ∀ t, dst = some t → t ∉ o.looksAt ops) :
    (yieldG P ops s o d → yieldG P ops (s.put dst e) o d) ∧ (yieldG P ops (s.put dst e) o d → yieldG P ops s o d) := by
  have hev : ∀ x ∈ o.op.operands, (s.put dst e).ev x = s.ev x := fun x hx => put_ev fun t ht hxt => h t ht (by
    subst hxt; exact List.mem_append_left _ (List.mem_filterMap.2 ⟨.tmp t, by simpa using hx, rfl⟩))
  have y1 : yieldP P s o.op d → yieldP P (s.put dst e) o.op d := yieldP_congr put_H hev
  have y2 : yieldP P (s.put dst e) o.op d → yieldP P s o.op d := yieldP_congr put_H.symm fun x hx => (hev x hx).symm
  unfold yieldG
  split
  · exact ⟨y1, y2⟩
  · rename_i j want hg
    have hgd : guardD (dsts ops.toList) (s.put dst e) j = guardD (dsts ops.toList) s j := by
      unfold guardD
      have hds : (dsts ops.toList)[j]? = (ops[j]?).map (·.dst) := by simp [dsts]
      rw [hds, put_nt]
      cases hj : ops[j]? with
      | none => rfl
      | some oj =>
        cases ht : oj.dst with
        | none => simp [ht]
        | some t =>
          simp only [Option.map_some, ht]
          split
          · exact put_ev (x := .tmp t) fun u hu k => by
              cases k
              exact h t hu (by simp [Oper.looksAt, hg, hj, ht])
          · rfl
    rw [hgd]
    unfold guardK
    split
    · split
      · exact ⟨y1, y2⟩
      · exact ⟨id, id⟩
    · exact ⟨id, id⟩
    · exact ⟨id, id⟩

/-- An operation that may come up now may be taken first, if what has not come up and does not wait for it is apart from it. -/
theorem anyD_first {P : Program} {md : Region.Mode} {ops : Array Oper} {K : St → Prop} {i : Nat} {oi : Oper} {d : D} (hi : ops[i]? = some oi) : ∀ (fuel : Nat) (listed : Array Bool) (s : St),
    (∀ j oj, ops[j]? = some oj → j ≠ i → listed.getD j true = false → (∀ e ∈ oj.after, Region.binds md e = true → e.on ≠ i) → oi.apart ops oj = true) →
    i ∈ Region.ready md ops listed → yieldG P ops s oi d → anyD P md ops K fuel (listed.setIfInBounds i true) (s.put oi.dst d) → anyD P md ops K (fuel + 1) listed s
  | 0, listed, s, _, hr, hy, H => by
    refine ⟨fun e => (by rw [e] at hr; cases hr), fun j hj => ?_⟩
    by_cases hji : j = i
    · subst hji; exact ⟨oi, hi, d, hy, H⟩
    · have := ready_mono hj hji; rw [H.1] at this; cases this
  | fuel + 1, listed, s, hfree, hr, hy, H => by
    refine ⟨fun e => (by rw [e] at hr; cases hr), fun j hj => ?_⟩
    by_cases hji : j = i
    · subst hji; exact ⟨oi, hi, d, hy, H⟩
    obtain ⟨oj', hoj', e, hye, hn⟩ := H.2 j (ready_mono hj hji)
    obtain ⟨hjun, oj, hoj, hall⟩ := mem_ready.1 hj
    obtain rfl : oj = oj' := Option.some.inj (hoj.symm.trans hoj')
    have hnot : ∀ k ∈ oj.after, Region.binds md k = true → k.on ≠ i := fun k hk hb heq => by
      have h1 := hall k hk hb
      have h0 := (mem_ready.1 hr).1
      rw [heq] at h1
      by_cases h' : i < listed.size
      · simp [h'] at h0 h1; rw [h0] at h1; cases h1
      · simp [Array.getElem?_eq_none (by omega : listed.size ≤ i)] at h1
    obtain ⟨a1, a2, a3⟩ := Oper.apart_spec (hfree j oj hoj hji hjun hnot)
    refine ⟨oj, hoj, e, (yieldG_put a1).2 hye, anyD_first hi fuel (listed.setIfInBounds j true) _ (fun k ok hk hki hun hno => ?_) (ready_mono hr (Ne.symm hji)) ((yieldG_put a3).1 hy) ?_⟩
    · refine hfree k ok hk hki ?_ hno
      by_cases hjk : j = k
      · subst hjk; exact hjun
      · rw [getD_set_ne true hjk] at hun; exact hun
    · rw [Array.setIfInBounds_comm _ _ hji, ← put_comm s d e a2]
      exact hn
/-- The walk in the text's order. -/
def lexD (P : Program) (ops : Array Oper) (K : St → Prop) : List Oper → St → Prop
  | [], s => K s
  | o :: l, s => ∃ d, yieldG P ops s o d ∧ lexD P ops K l (s.put o.dst d)
theorem anyD_lex {P : Program} {md : Region.Mode} {ops : Array Oper} {K : St → Prop} : ∀ (l : List Oper) (k : Nat) (listed : Array Bool) (s : St), (∀ j, l[j]? = ops[k + j]?) →
    Region.lexFrom md ops l.length k listed = true → lexD P ops K l s → anyD P md ops K l.length listed s
  | [], _, _, _, _, hB, h => ⟨by simpa [Region.lexFrom] using hB, h⟩
  | o :: l, k, listed, s, hl, hB, h => by
    have h0 : ops[k]? = some o := by simpa using (hl 0).symm
    simp only [List.length_cons, Region.lexFrom, Bool.and_eq_true] at hB
    obtain ⟨⟨hr, hf⟩, hB'⟩ := hB
    obtain ⟨d, hy, hK⟩ := h
    refine anyD_first h0 l.length listed s (Region.free_spec h0 hf) (by simpa using hr) hy (anyD_lex l (k + 1) _ _ (fun j => ?_) hB' hK)
    have := hl (j + 1)
    simpa [Nat.add_assoc, Nat.add_comm 1 j] using this
theorem vcOpQ_yield {P : Program} {s : St} {op : Op} {dst : Option Nat} {K : St → Prop} (h : vcOpQ P op dst K s) : ∃ d, yieldP P s op d ∧ K (s.put dst d) := by
  have put : putK s dst K (stepP P s op) → ∃ d, stepP P s op = some d ∧ K (s.put dst d) := fun h => by
    cases hs : stepP P s op with
    | none => rw [hs] at h; exact h.elim
    | some d => rw [hs] at h; exact ⟨d, rfl, h⟩
  cases op
  case call c =>
    obtain ⟨callee, args, argTypes⟩ := c
    cases callee
    case value f =>
      simp only [vcOpQ, callQ] at h
      simp only [yieldP]
      split at h
      · exact h
      · exact h.elim
    all_goals exact put h
  all_goals exact put h
theorem lexD_of_vc {P : Program} {ops : Array Oper} {K : St → Prop} : ∀ (l : List Oper) {s : St}, vcOpsQ P (dsts ops.toList) l K s → lexD P ops K l s
  | [], s, h => h
  | o :: l, s, h => by
    simp only [vcOpsQ] at h
    simp only [lexD, yieldG]
    split
    · rename_i hg
      simp only [hg] at h
      obtain ⟨d, h1, h2⟩ := vcOpQ_yield h
      exact ⟨d, h1, lexD_of_vc l h2⟩
    · rename_i j want hg
      simp only [hg] at h
      unfold guardK at h ⊢
      split at h
      · split at h
        · rename_i hb
          obtain ⟨d, h1, h2⟩ := vcOpQ_yield h
          exact ⟨d, by rw [if_pos hb]; exact h1, lexD_of_vc l h2⟩
        · rename_i hb
          exact ⟨.sc undef, by rw [if_neg hb], lexD_of_vc l h⟩
      · exact ⟨.sc undef, rfl, lexD_of_vc l h⟩
      · exact h.elim

section
variable {P : Program} {w0 : World} {M : Nat → Prop} {g : Nat → Option (Nat × Nat × Nat)} {s : St} {a : Act} {w : World}

theorem vc_sound {mu : List Nat} : ∀ (c : Code) (Q : Exit → St → Prop) {g : Nat → Option (Nat × Nat × Nat)} {s : St} {a : Act} {w : World}, Rep w0 M g s a w → vc P mu c Q s → c.wp P (LQ w0 M Q) a w
  | .skip, Q, g, s, a, w, hr, h => wp_skip ⟨s, g, h, hr⟩
  | .region id ops draw, Q, g, s, a, w, hr, h => by
    cases draw with
    | false => exact wp_region_list (vcOps_sound (K := Q .normal) (fun a w ⟨s, g, h1, h2⟩ => ⟨s, g, h1, h2⟩) ops.toList hr h)
    | true =>
      obtain ⟨h1, h2, h3⟩ := h
      simp only [Region.lexB, Bool.and_eq_true] at h2
      refine wp_region_any h1 (anyD_sound (K := Q .normal) (fun a w ⟨s, g, k1, k2⟩ => ⟨s, g, k1, k2⟩) _ _ (hr.grow (by exact ⟨rfl, rfl, rfl, Nat.le_refl _, fun _ _ => rfl⟩)) ?_)
      have := anyD_lex (P := P) (md := .any) (ops := ops) (K := Q .normal) ops.toList 0 (Array.replicate ops.size false) s (by simp) (by simpa using h2.2) (lexD_of_vc _ h3)
      simpa using this
  | .seq x y, Q, g, s, a, w, hr, h => by
    refine wp_seq (wp_mono (vc_sound x _ hr h) fun e a w ⟨s, g, h1, h2⟩ => ?_)
    cases e
    case normal => exact vc_sound y Q h2 h1
    all_goals exact ⟨s, g, h1, h2⟩
  | .cond c x y, Q, g, s, a, w, hr, h => by
    have hc := hr.ev c
    simp only [vc, condK] at h
    split at h
    · rename_i b hb
      rw [hb] at hc
      generalize hce : a.eval c = v at hc
      cases hc
      cases b
      · exact wp_cond_false hce (vc_sound y Q hr (h.2 rfl))
      · exact wp_cond_true hce (vc_sound x Q hr (h.1 rfl))
    · exact h.elim
  | .block id c, Q, g, s, a, w, hr, h => by
    refine wp_block (wp_mono (vc_sound c _ hr h) fun e a w ⟨s, g, h1, h2⟩ => ?_)
    cases e
    case exit id' =>
      simp only [blockQ] at h1
      simp only [Exit.inBlock]
      split
      · rename_i hi; rw [if_pos hi] at h1; exact ⟨s, g, h1, h2⟩
      · rename_i hi; rw [if_neg hi] at h1; exact ⟨s, g, h1, h2⟩
    all_goals exact ⟨s, g, h1, h2⟩
  | .loop c, Q, g, s, a, w, hr, h => by
    obtain ⟨n, hn⟩ := h
    refine wp_loop_rounds n ?_
    have key : ∀ (n : Nat) {g : Nat → Option (Nat × Nat × Nat)} {s : St} {a : Act} {w : World}, Rep w0 M g s a w → iterK (fun I => vc P mu c (thenQ I Q)) n s → Code.rounds P c (LQ w0 M Q) n a w := by
      intro n
      induction n with
      | zero => intro g s a w _ h; exact h.elim
      | succ n ih =>
        intro g s a w hr h
        rw [rounds_succ]
        refine wp_mono (vc_sound c _ hr h) fun e a w ⟨s, g, h1, h2⟩ => ?_
        cases e
        case normal => exact ih h2 h1
        all_goals exact ⟨s, g, h1, h2⟩
    exact key n hr hn
  | .exit id, Q, g, s, a, w, hr, h => wp_exit ⟨s, g, h, hr⟩
  | .ret, Q, g, s, a, w, hr, h => wp_ret ⟨s, g, h, hr⟩
  | .rangeFunc .., _, _, _, _, _, _, h => h.elim
  | .scope _, _, _, _, _, _, _, h => h.elim
  | .label _, _, _, _, _, _, _, h => h.elim
  | .goto _, _, _, _, _, _, _, h => h.elim
  | .refuse _, _, _, _, _, _, _, h => h.elim

/-! ### A function's contract -/
def resOne (P : Program) (s : St) : ResultVar → Option D
  | .tmp t => some (s.env t)
  | .cell ad t => loadD P s t (s.env ad)
def resD (P : Program) (s : St) (rs : List ResultVar) : Option D :=
  match rs with
  | [r] => resOne P s r
  | rs => (rs.mapM (resOne P s)).map .tp
def retQ (P : Program) (rs : List ResultVar) (r : D) : Exit → St → Prop
  | .normal, s => ∃ d, resD P s rs = some d ∧ Fz s.H d r
  | .ret, s => ∃ d, resD P s rs = some d ∧ Fz s.H d r
  | _, _ => False

def envOf (as : List D) : Nat → D := fun i => as.getD i (.sc (.tuple #[]))
def noOb : Nat → Option Ob := fun _ => none
def st0 (as : List D) (nt : Nat) : St := { env := envOf as, H := noOb, n := 0, nt }

def resSem (tmps : Array Value) : ResultVar → Sem Value
  | .tmp t => pure (tmps.getD t undef)
  | .cell ad t => do loadVar t (← asAddr (tmps.getD ad undef))
theorem results_eq (fn : Func) (tmps : Array Value) : results fn tmps = (do let vs ← fn.results.mapM (resSem tmps); pure (if h : vs.size = 1 then vs[0] else .tuple vs)) := by
  have e : (fun x : ResultVar => (match x with | .tmp t => pure (tmps.getD t undef) | .cell a t => do loadVar t (← asAddr (tmps.getD a undef)) : Sem Value)) = resSem tmps := by funext x; cases x <;> rfl
  unfold results
  rw [← e]
  rfl
theorem resOne_sound (hr : Rep w0 M g s a w) {x : ResultVar} {d : D} (h : resOne P s x = some d) :
    ∃ v, Rd (view w M g s.n) d v ∧ (resSem a.tmps x).run P w = .ok v w := by
  cases x with
  | tmp t => simp only [resOne, Option.some.injEq] at h; subst h; exact ⟨_, hr.env t, rfl⟩
  | cell ad t =>
    simp only [resOne] at h
    obtain ⟨v, h1, h2⟩ := load_sound (x := .tmp ad) hr h
    refine ⟨v, h1, ?_⟩
    have h3 := h2 w (Below.refl _ _)
    simp only [Act.eval] at h3
    simp only [resSem]
    generalize a.tmps.getD ad undef = vx at h3 ⊢
    simp only [Instr.loadAt, Sem.run_bind] at h3
    cases vx <;> simp only [Instr.sureAddr, stuck, Sem.run] at h3
    all_goals first
      | (cases h3; done)
      | skip
    rename_i p
    cases p with
    | none => simp only [Sem.run, Result.andThen] at h3; cases h3
    | some p => simpa [asAddr] using h3

theorem resD_sound (hr : Rep w0 M g s a w) {fn : Func} {d : D} (h : resD P s fn.results.toList = some d) : ∃ v, Rd (view w M g s.n) d v ∧ (results fn a.tmps).run P w = .ok v w := by
  have key : ∀ (l : List ResultVar) (ds : List D), l.mapM (resOne P s) = some ds → ∃ vs : List Value, ds.length = vs.length ∧ (∀ (i : Nat) (d : D) (v : Value), ds[i]? = some d → vs[i]? = some v → Rd (view w M g s.n) d v) ∧
      (l.mapM (resSem a.tmps)).run P w = .ok vs w := by
    intro l
    induction l with
    | nil => intro ds h; simp at h; subst h; exact ⟨[], rfl, by simp, rfl⟩
    | cons x l ih =>
      intro ds h
      rw [List.mapM_cons] at h
      simp only [Option.bind_eq_bind, Option.bind_eq_some_iff, Option.pure_def, Option.some.injEq] at h
      obtain ⟨d, hd, ds', hds, rfl⟩ := h
      obtain ⟨v, v1, v2⟩ := resOne_sound hr hd
      obtain ⟨vs, q1, q2, q3⟩ := ih ds' hds
      refine ⟨v :: vs, by simp [q1], fun i d v hd hv => ?_, ?_⟩
      · cases i with
        | zero => simp at hd hv; subst hd; subst hv; exact v1
        | succ i => exact q2 i d v (by simpa using hd) (by simpa using hv)
      · rw [List.mapM_cons]
        simp only [Sem.run_bind]
        rw [v2]
        simp only [Result.andThen_ok]
        rw [q3]
        rfl
  have hres : ∀ (vs : List Value), (fn.results.toList.mapM (resSem a.tmps)).run P w = .ok vs w →
      (results fn a.tmps).run P w = .ok (if h : vs.toArray.size = 1 then vs.toArray[0] else .tuple vs.toArray) w := by
    intro vs hvs
    rw [results_eq, Sem.run_bind, ← Array.toArray_toList (xs := fn.results), List.mapM_toArray, ← bind_pure_comp, Sem.run_bind, hvs]
    rfl
  unfold resD at h
  split at h
  · rename_i r hrr
    obtain ⟨v, v1, v2⟩ := resOne_sound hr h
    refine ⟨v, v1, ?_⟩
    have := hres [v] (by rw [hrr, List.mapM_cons]; simp only [Sem.run_bind]; rw [v2]; rfl)
    rw [this]; rfl
  · rename_i rs hne
    simp only [Option.map_eq_some_iff] at h
    obtain ⟨ds, hds, rfl⟩ := h
    obtain ⟨vs, q1, q2, q3⟩ := key _ _ hds
    refine ⟨.tuple vs.toArray, .tp ds vs q1 q2, ?_⟩
    rw [hres vs q3]
    have hlen : ∀ (l : List ResultVar) (ds : List D), l.mapM (resOne P s) = some ds → ds.length = l.length := by
      intro l
      induction l with
      | nil => intro ds h; simp at h; subst h; rfl
      | cons x l ih =>
        intro ds h
        rw [List.mapM_cons] at h
        simp only [Option.bind_eq_bind, Option.bind_eq_some_iff, Option.pure_def, Option.some.injEq] at h
        obtain ⟨d, hd, ds', hds, rfl⟩ := h
        simp [ih ds' hds]
    have h1 : ¬ vs.toArray.size = 1 := by
      intro k
      have hl := hlen _ _ hds
      simp only [List.size_toArray] at k
      rw [q1, k] at hl
      cases hr' : fn.results.toList with
      | nil => rw [hr'] at hl; simp at hl
      | cons x l =>
        cases l with
        | nil => exact hne x hr'
        | cons y l => rw [hr'] at hl; simp at hl
    rw [dif_neg h1]

/-- **A contract out of a walk over data.** -/
theorem Sp.of_vc {f : FuncId} {fn : Func} {c : Code} {as : List D} {r : D} {nt : Nat} (mu : List Nat) (rs : List ResultVar) (hf : P.funcs[f]? = some fn) (hb : fn.body = some c) (hn : (fn.name == "runtime.NumGoroutine") = false)
    (hnt : fn.ntmps = nt) (hrs : fn.results.toList = rs) (hle : as.length ≤ nt) (h : vc P mu c (retQ P rs r) (st0 as nt)) : Sp P f as r := by
  subst hrs
  refine ⟨⟨fn, hf, hn, by rw [hb]; rfl⟩, fun w M vs hM hl hv => ?_⟩
  have hr : Rep w M (fun _ => none) (st0 as nt) { tmps := vs.toArray ++ Array.replicate (fn.ntmps - vs.toArray.size) undef, defers := [] } w := by
    refine ⟨rfl, by simp [hnt, st0]; omega, fun i => ?_, by simp [st0, noOb], by simp, by simp, Below.refl _ _, hM⟩
    show Rd _ (as.getD i (.sc (.tuple #[]))) _
    by_cases hi : i < as.length
    · have h1 : as[i]? = some as[i] := List.getElem?_eq_getElem hi
      have h2 : vs[i]? = some (vs[i]'(by omega)) := List.getElem?_eq_getElem (by omega)
      have := hv i _ _ h1 h2
      show Rd (view w M (fun _ => none) 0) _ _
      simpa [List.getD, h1, Array.getD_eq_getD_getElem?, Array.getElem?_append, h2, show i < vs.length by omega] using this
    · have e1 : as.getD i (.sc (.tuple #[])) = .sc (.tuple #[]) := by simp [List.getD, List.getElem?_eq_none (Nat.le_of_not_lt hi)]
      have e2 : (vs.toArray ++ Array.replicate (fn.ntmps - vs.toArray.size) undef).getD i undef = undef := by
        rw [Array.getD_eq_getD_getElem?, Array.getElem?_append_right (by simp; omega)]
        simp only [Array.getElem?_replicate]
        split <;> rfl
      rw [e1, e2]; exact .sc undef
  refine calls_of_wp hf hb (wp_mono (vc_sound c _ hr h) fun e a w' ⟨s', g', h1, h2⟩ => ?_)
  have fin : ∀ d, resD P s' fn.results.toList = some d → Fz s'.H d r → a.defers = [] ∧ ∃ v, (results fn a.tmps).run P w' = .ok v w' ∧ ∃ u, Ending.returned v = .returned u ∧ Below w.heap.size w w' ∧ Rd (view w' M (fun _ => none) 0) r u := by
    intro d hd hz
    obtain ⟨v, v1, v2⟩ := resD_sound h2 hd
    exact ⟨h2.defers, v, v2, v, rfl, h2.below, Rd.freeze h2 hz v1⟩
  cases e
  case normal => obtain ⟨d, hd, hz⟩ := h1; exact fin d hd hz
  case ret => obtain ⟨d, hd, hz⟩ := h1; exact fin d hd hz
  all_goals exact h1.elim
end

/-! ### The walk's own equations: what stands behind is not looked into -/
def vcK (P : Program) (mu : List Nat) (c : Code) (Q : Exit → St → Prop) : St → Prop := vc P mu c Q
def opsK (P : Program) (mu : List Nat) (ops : List (Option Nat)) (l : List Oper) (K : St → Prop) : St → Prop := vcOps P mu ops l K
def opsQK (P : Program) (ops : List (Option Nat)) (l : List Oper) (K : St → Prop) : St → Prop := vcOpsQ P ops l K
def opK (P : Program) (mu : List Nat) (op : Op) (dst : Option Nat) (K : St → Prop) : St → Prop := vcOp P mu op dst K
def opQK (P : Program) (op : Op) (dst : Option Nat) (K : St → Prop) : St → Prop := vcOpQ P op dst K
def outK (Q : Exit → St → Prop) (e : Exit) : St → Prop := Q e
def loopV (P : Program) (mu : List Nat) (c : Code) (Q : Exit → St → Prop) (s : St) : Prop := loopQ (vc P mu c) Q s
section
variable {P : Program} {mu : List Nat} {ops : List (Option Nat)} {l : List Oper} {K : St → Prop} {Q : Exit → St → Prop} {s : St} {a b c : Code} {op : Op} {dst : Option Nat}
theorem vcK_eq : vcK P mu c Q s = vc P mu c Q s := Eq.trans rfl rfl
theorem opsK_eq : opsK P mu ops l K s = vcOps P mu ops l K s := Eq.trans rfl rfl
theorem opsQK_eq : opsQK P ops l K s = vcOpsQ P ops l K s := Eq.trans rfl rfl
theorem opK_eq : opK P mu op dst K s = vcOp P mu op dst K s := Eq.trans rfl rfl
theorem opQK_eq : opQK P op dst K s = vcOpQ P op dst K s := Eq.trans rfl rfl
theorem outK_eq {e : Exit} : outK Q e s = Q e s := Eq.trans rfl rfl
theorem vc_skip : vc P mu .skip Q s = Q .normal s := Eq.trans rfl rfl
theorem vc_region {id : Nat} {os : Array Oper} : vc P mu (.region id os false) Q s = vcOps P mu (dsts os.toList) os.toList (outK Q .normal) s := Eq.trans rfl rfl
theorem vc_draw {id : Nat} {os : Array Oper} : vc P mu (.region id os true) Q s = drawK P os (vcOpsQ P (dsts os.toList) os.toList (outK Q .normal) s) := Eq.trans rfl rfl
theorem vc_seq : vc P mu (.seq a b) Q s = vc P mu a (thenQ (vcK P mu b Q) Q) s := Eq.trans rfl rfl
theorem vc_cond {x : Operand} : vc P mu (.cond x a b) Q s = condK (s.ev x) (vcK P mu a Q) (vcK P mu b Q) s := Eq.trans rfl rfl
theorem vc_block {id : Nat} : vc P mu (.block id c) Q s = vc P mu c (blockQ id Q) s := Eq.trans rfl rfl
theorem vc_loop : vc P mu (.loop c) Q s = loopV P mu c Q s := Eq.trans rfl rfl
theorem vc_exit {id : Nat} : vc P mu (.exit id) Q s = Q (.exit id) s := Eq.trans rfl rfl
theorem vc_ret : vc P mu .ret Q s = Q .ret s := Eq.trans rfl rfl
theorem ops_nil : vcOps P mu ops [] K s = K s := Eq.trans rfl rfl
theorem ops_cons {d : Option Nat} {ty : TypeId} {pos : String} {af : Array Edge} {rest : List Oper} : vcOps P mu ops (⟨d, op, ty, pos, af, none⟩ :: rest) K s = vcOp P mu op d (opsK P mu ops rest K) s := Eq.trans rfl rfl
theorem ops_guard {d : Option Nat} {ty : TypeId} {pos : String} {af : Array Edge} {rest : List Oper} {j : Nat} {want : Bool} :
    vcOps P mu ops (⟨d, op, ty, pos, af, some (j, want)⟩ :: rest) K s = guardK (guardD ops s j) want (opK P mu op d (opsK P mu ops rest K)) (skipK d (opsK P mu ops rest K)) s := Eq.trans rfl rfl
theorem opsQ_nil : vcOpsQ P ops [] K s = K s := Eq.trans rfl rfl
theorem opsQ_cons {d : Option Nat} {ty : TypeId} {pos : String} {af : Array Edge} {rest : List Oper} : vcOpsQ P ops (⟨d, op, ty, pos, af, none⟩ :: rest) K s = vcOpQ P op d (opsQK P ops rest K) s := Eq.trans rfl rfl
theorem opsQ_guard {d : Option Nat} {ty : TypeId} {pos : String} {af : Array Edge} {rest : List Oper} {j : Nat} {want : Bool} :
    vcOpsQ P ops (⟨d, op, ty, pos, af, some (j, want)⟩ :: rest) K s = guardK (guardD ops s j) want (opQK P op d (opsQK P ops rest K)) (skipK d (opsQK P ops rest K)) s := Eq.trans rfl rfl
theorem then_normal {next : St → Prop} : thenQ next Q .normal s = next s := Eq.trans rfl rfl
theorem then_exit {next : St → Prop} {id : Nat} : thenQ next Q (.exit id) s = Q (.exit id) s := Eq.trans rfl rfl
theorem then_ret {next : St → Prop} : thenQ next Q .ret s = Q .ret s := Eq.trans rfl rfl
theorem block_normal {id : Nat} : blockQ id Q .normal s = Q .normal s := Eq.trans rfl rfl
theorem block_ret {id : Nat} : blockQ id Q .ret s = Q .ret s := Eq.trans rfl rfl
theorem block_exit {id id' : Nat} : blockQ id Q (.exit id') s = if id' = id then Q .normal s else Q (.exit id') s := Eq.trans rfl rfl
theorem st_put {e : Nat → D} {H : Nat → Option Ob} {n nt t : Nat} {d : D} (h : t < nt) : St.put ⟨e, H, n, nt⟩ (some t) d = ⟨setE e t d, H, n, nt⟩ := by simp [St.put, h]
theorem st_put_none {s : St} {d : D} : St.put s none d = s := Eq.trans rfl rfl
theorem putK_some {d : D} : putK s dst K (some d) = K (s.put dst d) := Eq.trans rfl rfl
theorem memK_some {t : Nat} {p : Prop} {s1 : St} {d : D} : memK t K (some (p, s1, d)) = (p ∧ K (s1.put (some t) d)) := Eq.trans rfl rfl
theorem stoK_some {p : Prop} {s1 : St} : stoK dst K (some (p, s1)) = (p ∧ K (s1.put dst (.sc (.tuple #[])))) := Eq.trans rfl rfl
theorem skipK_eq : skipK dst K s = K (s.put dst (.sc (.tuple #[]))) := Eq.trans rfl rfl
end

/-! ### Splitting -/
theorem guardK_split {b want : Bool} {run skip : St → Prop} {s : St} (h1 : b = want → run s) (h2 : b = !want → skip s) : guardK (.sc (.bool b)) want run skip s := by
  unfold guardK
  by_cases h : b = want
  · simpa [h] using h1 h
  · simp only [h, if_false]; exact h2 (by cases b <;> cases want <;> simp_all)
theorem guardK_tt {run skip : St → Prop} {s : St} : guardK (.sc (.bool true)) true run skip s = run s := by simp [guardK]
theorem guardK_ff {run skip : St → Prop} {s : St} : guardK (.sc (.bool false)) false run skip s = run s := by simp [guardK]
theorem guardK_tf {run skip : St → Prop} {s : St} : guardK (.sc (.bool true)) false run skip s = skip s := by simp [guardK]
theorem guardK_ft {run skip : St → Prop} {s : St} : guardK (.sc (.bool false)) true run skip s = skip s := by simp [guardK]
theorem guardK_tup {want : Bool} {run skip : St → Prop} {s : St} {vs : Array Value} : guardK (.sc (.tuple vs)) want run skip s = skip s := Eq.trans rfl rfl
theorem condK_tt {X Y : St → Prop} {s : St} : condK (.sc (.bool true)) X Y s = X s := by simp [condK]
theorem condK_ff {X Y : St → Prop} {s : St} : condK (.sc (.bool false)) X Y s = Y s := by simp [condK]
theorem Fz.bool {H : Nat → Option Ob} {b b' : Bool} (h : b = b') : Fz H (.sc (.bool b)) (.sc (.bool b')) := by rw [h]; exact .cl _ (.sc _)
theorem Fz.int {H : Nat → Option Ob} {k : IntKind} {n m : Int} (h : n = m) : Fz H (.sc (.int k n)) (.sc (.int k m)) := by rw [h]; exact .cl _ (.sc _)
theorem Fz.val {H : Nat → Option Ob} {n m : Value} (h : n = m) : Fz H (.sc n) (.sc m) := by rw [h]; exact .cl _ (.sc _)
theorem Fz.same {H : Nat → Option Ob} {d e : D} (h : d = e) (hc : Cl d) : Fz H d e := by rw [← h]; exact .cl _ hc
theorem Fz.tp2 {H : Nat → Option Ob} {a b a' b' : D} (h : Fz H a a') (k : Fz H b b') : Fz H (.tp [a, b]) (.tp [a', b']) :=
  .tp _ _ rfl fun i d e hd he => by
    match i, hd, he with
    | 0, hd, he => simp at hd he; subst hd; subst he; exact h
    | 1, hd, he => simp at hd he; subst hd; subst he; exact k
theorem Fz.tp3 {H : Nat → Option Ob} {a b c a' b' c' : D} (h : Fz H a a') (k : Fz H b b') (l : Fz H c c') : Fz H (.tp [a, b, c]) (.tp [a', b', c']) :=
  .tp _ _ rfl fun i d e hd he => by
    match i, hd, he with
    | 0, hd, he => simp at hd he; subst hd; subst he; exact h
    | 1, hd, he => simp at hd he; subst hd; subst he; exact k
    | 2, hd, he => simp at hd he; subst hd; subst he; exact l
theorem retQ_ret {P : Program} {rs : List ResultVar} {r : D} {s : St} (d : D) (h : resD P s rs = some d) (hf : Fz s.H d r) : retQ P rs r .ret s := ⟨d, h, hf⟩
theorem retQ_normal {P : Program} {rs : List ResultVar} {r : D} {s : St} (d : D) (h : resD P s rs = some d) (hf : Fz s.H d r) : retQ P rs r .normal s := ⟨d, h, hf⟩
theorem condK_split {b : Bool} {X Y : St → Prop} {s : St} (h1 : b = true → X s) (h2 : b = false → Y s) : condK (.sc (.bool b)) X Y s := ⟨h1, h2⟩
theorem callK_intro {P : Program} {s : St} {f : FuncId} {first caps args : List D} {dst : Option Nat} {K : St → Prop} (r : D) (h : Sp P f (first ++ args ++ caps) r) (hcl : ∀ d ∈ first ++ args ++ caps, Cl d) (hK : K (s.put dst r)) :
    callK P s (.fn f first caps) args dst K := ⟨r, .inl ⟨h, fun _ d hd => hcl d (List.mem_of_getElem? hd)⟩, hK⟩
theorem callQ_intro {P : Program} {s : St} {f : FuncId} {first caps args : List D} {dst : Option Nat} {K : St → Prop} (r : D) (h : Sp P f (first ++ args ++ caps) r) (hcl : ∀ d ∈ first ++ args ++ caps, Cl d) (_ : r = r) (hK : K (s.put dst r)) :
    callQ P s (.fn f first caps) args dst K := ⟨r, .inl ⟨h, fun _ d hd => hcl d (List.mem_of_getElem? hd)⟩, hK⟩
theorem drawK_intro {P : Program} {ops : Array Oper} {p : Prop} (h1 : P.follows .mixedOrders = true) (h2 : Region.lexB .any ops = true) (h : p) : drawK P ops p := ⟨h1, h2, h⟩

/-- A loop by what holds at each round's head and a measure. -/
theorem loopK_inv {F : (St → Prop) → St → Prop} (hF : ∀ (I J : St → Prop) (s : St), (∀ s, I s → J s) → F I s → F J s) (I : St → Prop) (μ : St → Nat) {s : St} (h0 : I s) (round : ∀ s, I s → F (fun s' => I s' ∧ μ s' < μ s) s) : loopK F s := by
  have key : ∀ n s, μ s ≤ n → I s → iterK F (n + 1) s := by
    intro n
    induction n with
    | zero =>
      intro s hn hI
      exact hF _ _ s (fun s' ⟨_, h2⟩ => by omega) (round s hI)
    | succ n ih =>
      intro s hn hI
      exact hF _ _ s (fun s' ⟨h1, h2⟩ => ih s' (by omega) h1) (round s hI)
  exact ⟨_, key _ s (Nat.le_refl _) h0⟩

theorem vcOp_mono {P : Program} {mu : List Nat} {op : Op} {dst : Option Nat} {K K' : St → Prop} (hK : ∀ s, K s → K' s) {s : St} (h : vcOp P mu op dst K s) : vcOp P mu op dst K' s := by
  have put : ∀ x, putK s dst K x → putK s dst K' x := fun x h => by cases x <;> first | exact h | exact hK _ h
  have mem : ∀ t x, memK t K x → memK t K' x := fun t x h => by
    cases x with
    | none => exact h
    | some q => exact ⟨h.1, hK _ h.2⟩
  have sto : ∀ x, stoK dst K x → stoK dst K' x := fun x h => by
    cases x with
    | none => exact h
    | some q => exact ⟨h.1, hK _ h.2⟩
  have cal : ∀ f args, callK P s f args dst K → callK P s f args dst K' := fun f args h => by
    unfold callK at *
    split at h
    · obtain ⟨r, h1, h2⟩ := h; exact ⟨r, h1, hK _ h2⟩
    · exact h
  cases op
  case call c =>
    obtain ⟨callee, args, argTypes⟩ := c
    cases callee
    case value f => (simp only [vcOp] at h ⊢; exact cal _ _ h)
    case builtin b =>
      cases b
      case append =>
        cases dst with
        | none => exact h
        | some t => (simp only [vcOp] at h ⊢; exact mem _ _ h)
      all_goals (simp only [vcOp] at h ⊢; exact put _ h)
    all_goals (simp only [vcOp] at h ⊢; exact put _ h)
  case store => (simp only [vcOp] at h ⊢; exact sto _ h)
  case box => cases dst with | none => exact h | some t => (simp only [vcOp] at h ⊢; exact mem _ _ h)
  case alloc => cases dst with | none => exact h | some t => (simp only [vcOp] at h ⊢; exact mem _ _ h)
  case buildSlice => cases dst with | none => exact h | some t => (simp only [vcOp] at h ⊢; exact mem _ _ h)
  case makeSlice => cases dst with | none => exact h | some t => (simp only [vcOp] at h ⊢; exact mem _ _ h)
  all_goals (simp only [vcOp] at h ⊢; exact put _ h)
theorem vcOpQ_mono {P : Program} {op : Op} {dst : Option Nat} {K K' : St → Prop} (hK : ∀ s, K s → K' s) {s : St} (h : vcOpQ P op dst K s) : vcOpQ P op dst K' s := by
  have put : ∀ x, putK s dst K x → putK s dst K' x := fun x h => by cases x <;> first | exact h | exact hK _ h
  have cal : ∀ f args, callQ P s f args dst K → callQ P s f args dst K' := fun f args h => by
    unfold callQ at *
    split at h
    · obtain ⟨r, h1, h2⟩ := h; exact ⟨r, h1, hK _ h2⟩
    · exact h
  cases op
  case call c =>
    obtain ⟨callee, args, argTypes⟩ := c
    cases callee
    case value f => (simp only [vcOpQ] at h ⊢; exact cal _ _ h)
    all_goals (simp only [vcOpQ] at h ⊢; exact put _ h)
  all_goals (simp only [vcOpQ] at h ⊢; exact put _ h)
theorem guardK_mono {d : D} {want : Bool} {run run' skip skip' : St → Prop} {s : St} (h1 : run s → run' s) (h2 : skip s → skip' s) (h : guardK d want run skip s) : guardK d want run' skip' s := by
  unfold guardK at *
  split at h
  · split at h
    · rename_i hb; rw [if_pos hb]; exact h1 h
    · rename_i hb; rw [if_neg hb]; exact h2 h
  · exact h2 h
  · exact h
theorem vcOps_mono {P : Program} {mu : List Nat} {ops : List (Option Nat)} {K K' : St → Prop} (hK : ∀ s, K s → K' s) : ∀ (l : List Oper) {s : St}, vcOps P mu ops l K s → vcOps P mu ops l K' s
  | [], s, h => hK s h
  | o :: rest, s, h => by
    simp only [vcOps] at h ⊢
    split
    · rename_i hg; simp only [hg] at h; exact vcOp_mono (fun s => vcOps_mono hK rest) h
    · rename_i j want hg; simp only [hg] at h
      exact guardK_mono (vcOp_mono (fun s => vcOps_mono hK rest)) (vcOps_mono hK rest) h
theorem vcOpsQ_mono {P : Program} {ops : List (Option Nat)} {K K' : St → Prop} (hK : ∀ s, K s → K' s) : ∀ (l : List Oper) {s : St}, vcOpsQ P ops l K s → vcOpsQ P ops l K' s
  | [], s, h => hK s h
  | o :: rest, s, h => by
    simp only [vcOpsQ] at h ⊢
    split
    · rename_i hg; simp only [hg] at h; exact vcOpQ_mono (fun s => vcOpsQ_mono hK rest) h
    · rename_i j want hg; simp only [hg] at h
      exact guardK_mono (vcOpQ_mono (fun s => vcOpsQ_mono hK rest)) (vcOpsQ_mono hK rest) h
theorem vc_mono {P : Program} {mu : List Nat} : ∀ (c : Code) {Q Q' : Exit → St → Prop} (_ : ∀ e s, Q e s → Q' e s) {s : St}, vc P mu c Q s → vc P mu c Q' s
  | .skip, _, _, hQ, s, h => hQ _ _ h
  | .region id ops draw, _, _, hQ, s, h => by
    cases draw with
    | false => exact vcOps_mono (hQ .normal) _ h
    | true => exact ⟨h.1, h.2.1, vcOpsQ_mono (hQ .normal) _ h.2.2⟩
  | .seq x y, _, _, hQ, s, h => vc_mono x (fun e s h => by
      cases e
      case normal => exact vc_mono y hQ h
      all_goals exact hQ _ _ h) h
  | .cond c x y, _, _, hQ, s, h => by
    simp only [vc, condK] at h ⊢
    split
    · rename_i b hb; simp only [hb] at h; exact ⟨fun e => vc_mono x hQ (h.1 e), fun e => vc_mono y hQ (h.2 e)⟩
    · rename_i hb
      split at h
      · rename_i b hb'; exact (hb b hb').elim
      · exact h
  | .block id c, _, _, hQ, s, h => vc_mono c (fun e s h => by
      cases e
      case exit id' =>
        simp only [blockQ] at h ⊢
        split
        · rename_i hi; rw [if_pos hi] at h; exact hQ _ _ h
        · rename_i hi; rw [if_neg hi] at h; exact hQ _ _ h
      all_goals exact hQ _ _ h) h
  | .loop c, Q, Q', hQ, s, h => by
    obtain ⟨n, hn⟩ := h
    refine ⟨n, ?_⟩
    have key : ∀ n s, iterK (fun I => vc P mu c (thenQ I Q)) n s → iterK (fun I => vc P mu c (thenQ I Q')) n s := by
      intro n
      induction n with
      | zero => intro s h; exact h
      | succ n ih =>
        intro s h
        exact vc_mono c (fun e s h => by
          cases e
          case normal => exact ih _ h
          all_goals exact hQ _ _ h) h
    exact key n s hn
  | .exit id, _, _, hQ, s, h => hQ _ _ h
  | .ret, _, _, hQ, s, h => hQ _ _ h
  | .rangeFunc .., _, _, _, _, h => h.elim
  | .scope _, _, _, _, _, h => h.elim
  | .label _, _, _, _, _, h => h.elim
  | .goto _, _, _, _, _, h => h.elim
  | .refuse _, _, _, _, _, h => h.elim

/-- The loop rule at a code. -/
theorem loop_inv {P : Program} {mu : List Nat} {c : Code} {Q : Exit → St → Prop} (I : St → Prop) (μ : St → Nat) {s : St} (h0 : I s) (round : ∀ s, I s → vc P mu c (thenQ (fun s' => I s' ∧ μ s' < μ s) Q) s) :
    loopV P mu c Q s :=
  loopK_inv (F := fun J => vc P mu c (thenQ J Q)) (fun I J s h k => vc_mono c (fun e s k => by
    cases e
    case normal => exact h _ k
    all_goals exact k) k) I μ h0 round

/-! ### Counting loops -/
/-- What holds at a loop's head: the frame's size, some slots, a plain fact. -/
def Inv (nt : Nat) (fs : List (Nat × D)) (p : Prop) (s : St) : Prop := s.nt = nt ∧ (∀ x ∈ fs, s.env x.1 = x.2) ∧ p
/-- The same with an object of the call's own. -/
def InvH (nt : Nat) (fs : List (Nat × D)) (p : (Nat → Option Ob) → (Nat → D) → Nat → Prop) (s : St) : Prop := s.nt = nt ∧ (∀ x ∈ fs, s.env x.1 = x.2) ∧ p s.H s.env s.n
def nextC (slot k len : Nat) (J : Nat → St → Prop) (s : St) : Prop := s.env slot = .sc (.int .i64 ((k + 1 : Nat) : Int)) ∧ k < len ∧ J (k + 1) s
def nextM (J : St → Prop) (μ : St → Nat) (m : Nat) (s : St) : Prop := J s ∧ μ s < m
theorem loop_meas {P : Program} {mu : List Nat} {c : Code} {Q : Exit → St → Prop} {s : St} (J : St → Prop) (μ : St → Nat) (h0 : J s) (round : ∀ s, J s → vc P mu c (thenQ (nextM J μ (μ s)) Q) s) : loopV P mu c Q s :=
  loop_inv J μ h0 round
theorem loop_count {P : Program} {mu : List Nat} {c : Code} {Q : Exit → St → Prop} {s : St} (slot len : Nat) (J : Nat → St → Prop) (h0 : s.env slot = .sc (.int .i64 0)) (h1 : J 0 s)
    (round : ∀ (k : Nat) (s : St), k ≤ len → s.env slot = .sc (.int .i64 (k : Int)) → J k s → vc P mu c (thenQ (nextC slot k len J) Q) s) : loopV P mu c Q s := by
  refine loop_inv (fun s => ∃ k : Nat, k ≤ len ∧ s.env slot = .sc (.int .i64 (k : Int)) ∧ J k s) (fun s => match s.env slot with | .sc (.int _ n) => len - n.toNat | _ => 0) ⟨0, Nat.zero_le _, h0, h1⟩ ?_
  rintro s ⟨k, hk, hs, hJ⟩
  refine vc_mono c (fun e s' h => ?_) (round k s hk hs hJ)
  cases e
  case normal =>
    obtain ⟨h1, h2, h3⟩ := h
    refine ⟨⟨k + 1, h2, h1, h3⟩, ?_⟩
    simp only [h1, hs]
    omega
  all_goals exact h
theorem loopC {P : Program} {mu : List Nat} {c : Code} {Q : Exit → St → Prop} {s : St} : loopV P mu c Q s = loopV P mu c Q s := rfl
theorem nextC_mk {slot k len : Nat} {J : Nat → St → Prop} {s : St} (h1 : s.env slot = .sc (.int .i64 ((k + 1 : Nat) : Int))) (h2 : k < len) (h3 : J (k + 1) s) : nextC slot k len J s := ⟨h1, h2, h3⟩
theorem nn (k : Nat) : (0 ≤ (k : Int)) = True := eq_true (Int.natCast_nonneg k)
theorem wrap_succ (k : Nat) (h : (k : Int) < 9223372036854775807) : IntKind.i64.wrap ((k : Int) + 1) = ((k + 1 : Nat) : Int) := by
  have := Go.IntWalk.i64_in ((k : Int) + 1) (by omega)
  rw [this]; omega
end Go.Fw
