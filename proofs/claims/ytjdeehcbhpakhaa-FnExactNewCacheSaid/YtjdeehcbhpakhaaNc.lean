/-
  For every integer, the program's NewCache returns the cache and the code that the reference's NewCache returns, before and after a second call; no condition.
-/
import Derived.Test.YtjdeehcbhpakhaaRows
import Derived.WalkKit
import Derived.ProofKit
import Derived.OpenShut
import Derived.WalkLawsBesides
import Derived.WalkSpells
namespace Go.Proofs.Ytjdeehcbhpakhaa.fnExactNewCache
open Go.ChangeShapes Go.WideShapes Go.ChangeAt Go.RowKit
set_option linter.unusedVariables false      -- a walk need not use every 'w<i>' (that an integer argument fits its kind)

theorem own : ownKnob Try.prog.godebug = none := by kernel_rfl

def sz (a0 : Int) : Int := if 1 ≤ a0 ∧ a0 ≤ 8 then a0 else 0
def cd (a0 : Int) : Int := if 1 ≤ a0 ∧ a0 ≤ 8 then 0 else 2
theorem c6 (a0 : Int) (w : World) : Calls Try.prog 6 #[.int .i64 a0] w fun e w' => e = .returned (.tuple #[.agg #[.int .i64 (sz a0), .int .i64 0, .slice none 0 0], .int .i64 (cd a0)]) ∧ ∃ cs t, w.alloc (.cells cs t) = w' := by
  by_cases h1 : 1 ≤ a0
  · by_cases h2 : a0 ≤ 8
    · have e1 : sz a0 = a0 := by simp [sz, h1, h2]
      have e2 : cd a0 = 0 := by simp [cd, h1, h2]
      rw [e1, e2]; clear e1 e2
      go_enter Try.func6, Try.ntmps6
      go_wp2
      exact bodyPost_ret (v := .tuple #[.agg #[.int .i64 a0, .int .i64 0, .slice none 0 0], .int .i64 0]) (by simp [results, Try.results6, go_sem]) rfl ⟨rfl, _, _, rfl⟩
    · have e1 : sz a0 = 0 := by simp [sz, h1, h2]
      have e2 : cd a0 = 2 := by simp [cd, h1, h2]
      rw [e1, e2]; clear e1 e2
      go_enter Try.func6, Try.ntmps6
      go_wp2
      exact bodyPost_ret (v := .tuple #[.agg #[.int .i64 0, .int .i64 0, .slice none 0 0], .int .i64 2]) (by simp [results, Try.results6, go_sem]) rfl ⟨rfl, _, _, rfl⟩
  · have e1 : sz a0 = 0 := by simp [sz, h1]
    have e2 : cd a0 = 2 := by simp [cd, h1]
    rw [e1, e2]; clear e1 e2
    go_enter Try.func6, Try.ntmps6
    go_wp2
    exact bodyPost_ret (v := .tuple #[.agg #[.int .i64 0, .int .i64 0, .slice none 0 0], .int .i64 2]) (by simp [results, Try.results6, go_sem]) rfl ⟨rfl, _, _, rfl⟩
theorem c7 (a0 : Int) (w : World) : Calls Try.prog 7 #[.int .i64 a0] w fun e w' => e = .returned (.tuple #[.agg #[.int .i64 (sz a0), .int .i64 0, .slice none 0 0], .int .i64 (cd a0)]) ∧ ∃ cs t, w.alloc (.cells cs t) = w' := by
  by_cases h1 : 1 ≤ a0
  · by_cases h2 : a0 ≤ 8
    · have e1 : sz a0 = a0 := by simp [sz, h1, h2]
      have e2 : cd a0 = 0 := by simp [cd, h1, h2]
      rw [e1, e2]; clear e1 e2
      go_enter Try.func7, Try.ntmps7
      go_wp2
      exact bodyPost_ret (v := .tuple #[.agg #[.int .i64 a0, .int .i64 0, .slice none 0 0], .int .i64 0]) (by simp [results, Try.results7, go_sem]) rfl ⟨rfl, _, _, rfl⟩
    · have e1 : sz a0 = 0 := by simp [sz, h1, h2]
      have e2 : cd a0 = 2 := by simp [cd, h1, h2]
      rw [e1, e2]; clear e1 e2
      go_enter Try.func7, Try.ntmps7
      go_wp2
      exact bodyPost_ret (v := .tuple #[.agg #[.int .i64 0, .int .i64 0, .slice none 0 0], .int .i64 2]) (by simp [results, Try.results7, go_sem]) rfl ⟨rfl, _, _, rfl⟩
  · have e1 : sz a0 = 0 := by simp [sz, h1]
    have e2 : cd a0 = 2 := by simp [cd, h1]
    rw [e1, e2]; clear e1 e2
    go_enter Try.func7, Try.ntmps7
    go_wp2
    exact bodyPost_ret (v := .tuple #[.agg #[.int .i64 0, .int .i64 0, .slice none 0 0], .int .i64 2]) (by simp [results, Try.results7, go_sem]) rfl ⟨rfl, _, _, rfl⟩
theorem c19 (w : World) : Calls Try.prog 19 #[.slice none 0 0, .slice none 0 0] w fun e w' => e = .returned (.bool true) ∧ w = w' := by
  go_enter Try.func19, Try.ntmps19
  go_wp2
  apply wp_loop_once
  go_wp2
  go_ret
  exact ⟨rfl, rfl⟩
theorem c20 (k : Int) (w : World) : Calls Try.prog 20 #[.slice none 0 0, .int .i64 k] w fun e w' => e = .returned (.int .i64 k) ∧ w = w' := by
  go_enter Try.func20, Try.ntmps20
  go_wp2
  apply wp_loop_once
  go_wp2
  go_ret
  exact ⟨rfl, rfl⟩
theorem c21 (k : Int) (w : World) : Calls Try.prog 21 #[.slice none 0 0, .int .i64 k] w fun e w' => e = .returned (.int .i64 k) ∧ w = w' := by
  go_enter Try.func21, Try.ntmps21
  go_wp2
  apply wp_loop_once
  go_wp2
  go_ret
  exact ⟨rfl, rfl⟩
set_option maxHeartbeats 1000000 in
/-- The walk of the law over the callees' contracts. -/
theorem walk (a0 : Int) (w0 : (Lit.int .i64 a0).wf = true) (w : World) :
    Calls Try.prog 3 #[.int .i64 a0] w fun e w' => e = .returned (.bool true) ∧ Grown w w' := by
  go_enter Try.func3, Try.ntmps3
  go_wp2_with (first | (go_at_call 6; refine (c6 _ _).mono ?_; rintro e w' ⟨rfl, cs, t, rfl⟩) | (go_at_call 7; refine (c7 _ _).mono ?_; rintro e w' ⟨rfl, cs, t, rfl⟩) | (go_at_call 19; refine (c19 _).mono ?_; rintro e w' ⟨rfl, rfl⟩) | (go_at_call 20; refine (c20 _ _).mono ?_; rintro e w' ⟨rfl, rfl⟩) | (go_at_call 21; refine (c21 _ _).mono ?_; rintro e w' ⟨rfl, rfl⟩) | go_in)
  all_goals (go_ret; exact ⟨rfl, by repeat (first | exact Grown.refl _ | apply Grown.drew | apply Grown.alloc)⟩)

/-! ### THE ROW's STEP: WRITTEN OUT: LEAVE IT -/
set_option maxRecDepth 100000 in
theorem lifted (os : Os) (started : os.Started) (H : Type) (enc : TypeId × Value → H) :
    ReturnsInHanded {} Try.checked os 3 .any (Rows.fnExactNewCacheSpec.pre6 enc Try.prog Try.f3 Rows.fnExactNewCacheRow.domain false) (Rows.fnExactNewCacheSpec.post enc Try.prog Try.f3 false true false false) := by
  refine returnsInHanded_of_change (C := Try.checked) own started (by kernel_rfl) Try.func3
    (ChangeSpec.witness6 (enc := enc) (C := Try.checked) false ⟨#[], #[.int .i64 0], []⟩ 8 (by kernel_rfl) (by kernel_rfl) (by kernel_rfl) (by kernel_rfl)) ?_
  intro W base args ds gs before hval0 hW hcnd _
  have hval : ∀ (j : Nat) t v, Try.f3.params[j]? = some t → args[j]? = some v → Value.okWide Try.prog W .any base t v := hval0
  have hW' := hW
  obtain ⟨p, q, hA0, hV, rfl, hfz, hnd⟩ := hW
  have hA : DataW.TrodAll enc Try.prog W 0 (fun _ => true) true Try.f3.params.toList args.toList ds p := hA0
  rw [Try.params3] at hA hval
  obtain ⟨v0, vs0, d0, ds0, p0, q0, hargs, rfl, rfl, h0, r0⟩ := trodAll_cons hA
  obtain ⟨rfl, rfl, rfl⟩ := trodAll_nil r0
  obtain rfl : args = #[v0] := by cases args; simp_all
  obtain ⟨rfl, rfl⟩ := trodVars_none hV
  obtain ⟨a0, rfl, rfl, rfl, w0⟩ := open_int Try.underlying2 (hval 0 2 v0 rfl rfl) h0
  clear hA0 hval0
  simp only [List.append_nil] at hW'
  refine (walk a0 w0 W).mono fun e W' ⟨he, hg⟩ => ?_
  subst he
  exact ⟨_, rfl, post_of_same (pa := []) (pv := []) hW' (fun _ _ _ => (trodAll_cons_mk (shut_bool Try.underlying4 _) trodAll_mk0)) (fun sp _ => (trodAll_cons_mk (shut_int Try.underlying2 w0) trodAll_mk0)) (fun _ _ => rfl) rfl
    (hg.frame _) hg.2.1 (ok_one (by kernel_rfl) rfl (okWide_bool_mk Try.underlying4 _))⟩

theorem over : Rows.fnExactNewCacheRow.holds Try.pinned (OpenSpec.ofChange Rows.fnExactNewCacheSpec) :=
  OpenClaim.holds_of_wide 3 Try.f3 rfl rfl rfl rfl rfl rfl rfl ⟨rfl, rfl, rfl, rfl, rfl⟩ rfl rfl rfl rfl rfl (by kernel_rfl) Try.func3 (by kernel_rfl)
    (of_decide_eq_true (by kernel_rfl)) (by unfold Func.isWrapper; first | (rw [if_pos (by decide +kernel)]; kernel_rfl) | (rw [if_neg (by decide +kernel)]; exact ⟨rfl, rfl⟩))
    (fun os started H enc _ => lifted os started H enc)

/-- ████ THE STATEMENT ████ -/
theorem proved : Rows.FnExactNewCacheSaid :=
  over
#print axioms proved
end Go.Proofs.Ytjdeehcbhpakhaa.fnExactNewCache
