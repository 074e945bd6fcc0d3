/-
  What an argument's reading says, at the program's types. No condition.
-/
import Derived.Test.YtjdeehcbhpakhaaFw5
import Derived.Test.YtjdeehcbhpakhaaL1
import Derived.Test.YtjdeehcbhpakhaaRows
namespace Go.Proofs.Ytjdeehcbhpakhaa
open Go.Fw Go.ChangeShapes
set_option linter.unusedVariables false
set_option linter.unusedSimpArgs false
theorem Core.okS_of : ∀ {l : List Core}, (∀ c ∈ l, c.ok) → Core.okS l
  | [], _ => by simp [Core.okS]
  | c :: l, h => by simp only [Core.okS]; exact ⟨h c (by simp), Core.okS_of fun d hd => h d (by simp [hd])⟩
theorem Core.dec : ∀ n, Dec Try.prog n 66 Core.ds Core.ok
  | 0 => fun enc W base spare held fuel cs x hn h => by
    obtain ⟨xs, m, rfl, _⟩ := DataW.trod_struct Try.underlying66 h
    omega
  | n + 1 => fun enc W base spare held fuel cs x hn h => by
    obtain ⟨xs, m, rfl, _, hl, hxs, hf⟩ := DataW.trod_struct Try.underlying66 h
    have hm : m ≤ n := by omega
    obtain ⟨a0, o0, r0⟩ := Dec.field (Dec.int Try.underlying2) hm (hf 0 _ rfl) (by simp [hxs])
    have q0 : RdP (V0 W) [I a0] cs 0 := r0
    obtain ⟨a1, o1, r1⟩ := Dec.field (Dec.int Try.underlying2) hm (hf 1 _ rfl) (by simp [hxs])
    have q1 : RdP (V0 W) [I a1] cs 1 := r1
    obtain ⟨a2, o2, r2⟩ := Dec.field (Dec.mono (Dec.slice (sz := 1) Try.underlying44 (by kernel_rfl) (by decide) (fun _ => rfl) (Dec.int Try.underlying2)) (Nat.le_succ _)) hm (hf 2 _ rfl) (by simp [hxs])
    have q2 : RdP (V0 W) [ints a2] cs 2 := r2
    obtain ⟨a3, o3, r3⟩ := Dec.field (Dec.mono (Dec.slice (sz := 4) Try.underlying64 (by kernel_rfl) (by decide) Core.ds_len (Core.dec n)) (Nat.le_succ _)) hm (hf 3 _ rfl) (by simp [hxs])
    have q3 : RdP (V0 W) [Core.sl a3] cs 3 := by simpa [Core.sl, Core.dsL_eq] using r3
    refine ⟨.mk a0 a1 a2 a3, (by simp only [Core.ok]; exact ⟨o2.1, o3.1, Core.okS_of o3.2⟩), .of (by rw [Core.ds_len, hl, show Try.prog.cellsOf 66 = 4 by kernel_rfl]) ?_⟩
    rw [show Core.ds (.mk a0 a1 a2 a3) = [I a0] ++ ([I a1] ++ ([ints a2] ++ ([Core.sl a3]))) by first | (simp [Core.ds]; done) | simp [Core.ds, Core.sl]]
    exact q0.append (q1.append (q2.append (q3) (by first | rfl | simp [Core.ds_len])) (by first | rfl | simp [Core.ds_len])) (by first | rfl | simp [Core.ds_len])
theorem CacheEntry.okS_of {l : List CacheEntry} (h : ∀ c ∈ l, c.ok) : CacheEntry.okS l := h
theorem CacheEntry.dec : ∀ n, Dec Try.prog n 68 CacheEntry.ds CacheEntry.ok
  | 0 => fun enc W base spare held fuel cs x hn h => by
    obtain ⟨xs, m, rfl, _⟩ := DataW.trod_struct Try.underlying68 h
    omega
  | n + 1 => fun enc W base spare held fuel cs x hn h => by
    obtain ⟨xs, m, rfl, _, hl, hxs, hf⟩ := DataW.trod_struct Try.underlying68 h
    have hm : m ≤ n := by omega
    obtain ⟨a0, o0, r0⟩ := Dec.field (Dec.str Try.underlying9) hm (hf 0 _ rfl) (by simp [hxs])
    have q0 : RdP (V0 W) [S a0] cs 0 := r0
    obtain ⟨a1, o1, r1⟩ := Dec.field (Core.dec n) hm (hf 1 _ rfl) (by simp [hxs])
    have q1 : RdP (V0 W) a1.ds cs 1 := r1
    obtain ⟨a2, o2, r2⟩ := Dec.field (Dec.mono (Dec.slice (sz := 1) Try.underlying44 (by kernel_rfl) (by decide) (fun _ => rfl) (Dec.int Try.underlying2)) (Nat.le_succ _)) hm (hf 2 _ rfl) (by simp [hxs])
    have q2 : RdP (V0 W) [ints a2] cs 5 := r2
    obtain ⟨a3, o3, r3⟩ := Dec.field (Dec.int Try.underlying2) hm (hf 3 _ rfl) (by simp [hxs])
    have q3 : RdP (V0 W) [I a3] cs 6 := r3
    refine ⟨.mk a0 a1 a2 a3, (by simp only [CacheEntry.ok]; exact ⟨o0, o1, o2.1⟩), .of (by rw [CacheEntry.ds_len, hl, show Try.prog.cellsOf 68 = 7 by kernel_rfl]) ?_⟩
    rw [show CacheEntry.ds (.mk a0 a1 a2 a3) = [S a0] ++ (a1.ds ++ ([ints a2] ++ ([I a3]))) by first | (simp [CacheEntry.ds]; done) | simp [CacheEntry.ds, CacheEntry.sl]]
    exact q0.append (q1.append (q2.append (q3) (by first | rfl | simp [Core.ds_len])) (by first | rfl | simp [Core.ds_len])) (by first | rfl | simp [Core.ds_len])
theorem Cache.okS_of {l : List Cache} (h : ∀ c ∈ l, c.ok) : Cache.okS l := h
theorem Cache.dec : ∀ n, Dec Try.prog n 32 Cache.ds Cache.ok
  | 0 => fun enc W base spare held fuel cs x hn h => by
    obtain ⟨xs, m, rfl, _⟩ := DataW.trod_struct Try.underlying32 h
    omega
  | n + 1 => fun enc W base spare held fuel cs x hn h => by
    obtain ⟨xs, m, rfl, _, hl, hxs, hf⟩ := DataW.trod_struct Try.underlying32 h
    have hm : m ≤ n := by omega
    obtain ⟨a0, o0, r0⟩ := Dec.field (Dec.int Try.underlying2) hm (hf 0 _ rfl) (by simp [hxs])
    have q0 : RdP (V0 W) [I a0] cs 0 := r0
    obtain ⟨a1, o1, r1⟩ := Dec.field (Dec.int Try.underlying2) hm (hf 1 _ rfl) (by simp [hxs])
    have q1 : RdP (V0 W) [I a1] cs 1 := r1
    obtain ⟨a2, o2, r2⟩ := Dec.field (Dec.mono (Dec.slice (sz := 7) Try.underlying30 (by kernel_rfl) (by decide) CacheEntry.ds_len (CacheEntry.dec n)) (Nat.le_succ _)) hm (hf 2 _ rfl) (by simp [hxs])
    have q2 : RdP (V0 W) [CacheEntry.sl a2] cs 2 := by simpa [CacheEntry.sl, CacheEntry.dsL_eq] using r2
    refine ⟨.mk a0 a1 a2, (by simp only [Cache.ok]; exact ⟨o2.1, CacheEntry.okS_of o2.2⟩), .of (by rw [Cache.ds_len, hl, show Try.prog.cellsOf 32 = 3 by kernel_rfl]) ?_⟩
    rw [show Cache.ds (.mk a0 a1 a2) = [I a0] ++ ([I a1] ++ ([CacheEntry.sl a2])) by first | (simp [Cache.ds]; done) | simp [Cache.ds, Cache.sl]]
    exact q0.append (q1.append (q2) (by first | rfl | simp [CacheEntry.ds_len])) (by first | rfl | simp [CacheEntry.ds_len])
end Go.Proofs.Ytjdeehcbhpakhaa
