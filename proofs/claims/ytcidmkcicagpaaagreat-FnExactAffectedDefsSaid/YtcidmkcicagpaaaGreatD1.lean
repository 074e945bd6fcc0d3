/-
  What an argument's reading says, at the program's types. No condition.
-/
import Derived.Test.YtcidmkcicagpaaaGreatFw5
import Derived.Test.YtcidmkcicagpaaaGreatL1
import Derived.Test.YtcidmkcicagpaaaGreatRows
namespace Go.Proofs.YtcidmkcicagpaaaGreat
open Go.Fw Go.ChangeShapes
set_option linter.unusedVariables false
set_option linter.unusedSimpArgs false
theorem Typ.okS_of : ∀ {l : List Typ}, (∀ c ∈ l, c.ok) → Typ.okS l
  | [], _ => by simp [Typ.okS]
  | c :: l, h => by simp only [Typ.okS]; exact ⟨h c (by simp), Typ.okS_of fun d hd => h d (by simp [hd])⟩
theorem Typ.dec : ∀ n, Dec Tryz.prog n 28 Typ.ds Typ.ok
  | 0 => fun enc W base spare held fuel cs x hn h => by
    obtain ⟨xs, m, rfl, _⟩ := DataW.trod_struct Tryz.underlying28 h
    omega
  | n + 1 => fun enc W base spare held fuel cs x hn h => by
    obtain ⟨xs, m, rfl, _, hl, hxs, hf⟩ := DataW.trod_struct Tryz.underlying28 h
    have hm : m ≤ n := by omega
    obtain ⟨a0, o0, r0⟩ := Dec.field (Dec.int Tryz.underlying2) hm (hf 0 _ rfl) (by simp [hxs])
    have q0 : RdP (V0 W) [I a0] cs 0 := r0
    obtain ⟨a1, o1, r1⟩ := Dec.field (Dec.str Tryz.underlying9) hm (hf 1 _ rfl) (by simp [hxs])
    have q1 : RdP (V0 W) [S a1] cs 1 := r1
    obtain ⟨a2, o2, r2⟩ := Dec.field (Dec.mono (Dec.slice (sz := 3) Tryz.underlying26 (by kernel_rfl) (by decide) Typ.ds_len (Typ.dec n)) (Nat.le_succ _)) hm (hf 2 _ rfl) (by simp [hxs])
    have q2 : RdP (V0 W) [Typ.sl a2] cs 2 := by simpa [Typ.sl, Typ.dsL_eq] using r2
    refine ⟨.mk a0 a1 a2, (by simp only [Typ.ok]; exact ⟨o1, o2.1, Typ.okS_of o2.2⟩), .of (by rw [Typ.ds_len, hl, show Tryz.prog.cellsOf 28 = 3 by kernel_rfl]) ?_⟩
    rw [show Typ.ds (.mk a0 a1 a2) = [I a0] ++ ([S a1] ++ ([Typ.sl a2])) by first | (simp [Typ.ds]; done) | simp [Typ.ds, Typ.sl]]
    exact q0.append (q1.append (q2) (by first | rfl | simp [Typ.ds_len])) (by first | rfl | simp [Typ.ds_len])
theorem Constructor.okS_of {l : List Constructor} (h : ∀ c ∈ l, c.ok) : Constructor.okS l := h
theorem Constructor.dec : ∀ n, Dec Tryz.prog n 160 Constructor.ds Constructor.ok
  | 0 => fun enc W base spare held fuel cs x hn h => by
    obtain ⟨xs, m, rfl, _⟩ := DataW.trod_struct Tryz.underlying160 h
    omega
  | n + 1 => fun enc W base spare held fuel cs x hn h => by
    obtain ⟨xs, m, rfl, _, hl, hxs, hf⟩ := DataW.trod_struct Tryz.underlying160 h
    have hm : m ≤ n := by omega
    obtain ⟨a0, o0, r0⟩ := Dec.field (Dec.str Tryz.underlying9) hm (hf 0 _ rfl) (by simp [hxs])
    have q0 : RdP (V0 W) [S a0] cs 0 := r0
    obtain ⟨a1, o1, r1⟩ := Dec.field (Dec.mono (Dec.slice (sz := 3) Tryz.underlying26 (by kernel_rfl) (by decide) Typ.ds_len (Typ.dec n)) (Nat.le_succ _)) hm (hf 1 _ rfl) (by simp [hxs])
    have q1 : RdP (V0 W) [Typ.sl a1] cs 1 := by simpa [Typ.sl, Typ.dsL_eq] using r1
    refine ⟨.mk a0 a1, (by simp only [Constructor.ok]; exact ⟨o0, o1.1, Typ.okS_of o1.2⟩), .of (by rw [Constructor.ds_len, hl, show Tryz.prog.cellsOf 160 = 2 by kernel_rfl]) ?_⟩
    rw [show Constructor.ds (.mk a0 a1) = [S a0] ++ ([Typ.sl a1]) by first | (simp [Constructor.ds]; done) | simp [Constructor.ds, Constructor.sl]]
    exact q0.append (q1) (by first | rfl | simp [Typ.ds_len])
theorem Dat.okS_of {l : List Dat} (h : ∀ c ∈ l, c.ok) : Dat.okS l := h
theorem Dat.dec : ∀ n, Dec Tryz.prog n 94 Dat.ds Dat.ok
  | 0 => fun enc W base spare held fuel cs x hn h => by
    obtain ⟨xs, m, rfl, _⟩ := DataW.trod_struct Tryz.underlying94 h
    omega
  | n + 1 => fun enc W base spare held fuel cs x hn h => by
    obtain ⟨xs, m, rfl, _, hl, hxs, hf⟩ := DataW.trod_struct Tryz.underlying94 h
    have hm : m ≤ n := by omega
    obtain ⟨a0, o0, r0⟩ := Dec.field (Dec.str Tryz.underlying9) hm (hf 0 _ rfl) (by simp [hxs])
    have q0 : RdP (V0 W) [S a0] cs 0 := r0
    obtain ⟨a1, o1, r1⟩ := Dec.field (Dec.mono (Dec.slice (sz := 2) Tryz.underlying92 (by kernel_rfl) (by decide) Constructor.ds_len (Constructor.dec n)) (Nat.le_succ _)) hm (hf 1 _ rfl) (by simp [hxs])
    have q1 : RdP (V0 W) [Constructor.sl a1] cs 1 := by simpa [Constructor.sl, Constructor.dsL_eq] using r1
    refine ⟨.mk a0 a1, (by simp only [Dat.ok]; exact ⟨o0, o1.1, Constructor.okS_of o1.2⟩), .of (by rw [Dat.ds_len, hl, show Tryz.prog.cellsOf 94 = 2 by kernel_rfl]) ?_⟩
    rw [show Dat.ds (.mk a0 a1) = [S a0] ++ ([Constructor.sl a1]) by first | (simp [Dat.ds]; done) | simp [Dat.ds, Dat.sl]]
    exact q0.append (q1) (by first | rfl | simp [Constructor.ds_len])
theorem Term.okS_of : ∀ {l : List Term}, (∀ c ∈ l, c.ok) → Term.okS l
  | [], _ => by simp [Term.okS]
  | c :: l, h => by simp only [Term.okS]; exact ⟨h c (by simp), Term.okS_of fun d hd => h d (by simp [hd])⟩
theorem Term.dec : ∀ n, Dec Tryz.prog n 32 Term.ds Term.ok
  | 0 => fun enc W base spare held fuel cs x hn h => by
    obtain ⟨xs, m, rfl, _⟩ := DataW.trod_struct Tryz.underlying32 h
    omega
  | n + 1 => fun enc W base spare held fuel cs x hn h => by
    obtain ⟨xs, m, rfl, _, hl, hxs, hf⟩ := DataW.trod_struct Tryz.underlying32 h
    have hm : m ≤ n := by omega
    obtain ⟨a0, o0, r0⟩ := Dec.field (Dec.int Tryz.underlying2) hm (hf 0 _ rfl) (by simp [hxs])
    have q0 : RdP (V0 W) [I a0] cs 0 := r0
    obtain ⟨a1, o1, r1⟩ := Dec.field (Dec.int Tryz.underlying2) hm (hf 1 _ rfl) (by simp [hxs])
    have q1 : RdP (V0 W) [I a1] cs 1 := r1
    obtain ⟨a2, o2, r2⟩ := Dec.field (Dec.str Tryz.underlying9) hm (hf 2 _ rfl) (by simp [hxs])
    have q2 : RdP (V0 W) [S a2] cs 2 := r2
    obtain ⟨a3, o3, r3⟩ := Dec.field (Typ.dec n) hm (hf 3 _ rfl) (by simp [hxs])
    have q3 : RdP (V0 W) a3.ds cs 3 := r3
    obtain ⟨a4, o4, r4⟩ := Dec.field (Dec.mono (Dec.slice (sz := 1) Tryz.underlying29 (by kernel_rfl) (by decide) (fun _ => rfl) (Dec.str Tryz.underlying9)) (Nat.le_succ _)) hm (hf 4 _ rfl) (by simp [hxs])
    have q4 : RdP (V0 W) [strs a4] cs 6 := r4
    obtain ⟨a5, o5, r5⟩ := Dec.field (Dec.mono (Dec.slice (sz := 8) Tryz.underlying30 (by kernel_rfl) (by decide) Term.ds_len (Term.dec n)) (Nat.le_succ _)) hm (hf 5 _ rfl) (by simp [hxs])
    have q5 : RdP (V0 W) [Term.sl a5] cs 7 := by simpa [Term.sl, Term.dsL_eq] using r5
    refine ⟨.mk a0 a1 a2 a3 a4 a5, (by simp only [Term.ok]; exact ⟨o2, o3, o4.1, o4.2, o5.1, Term.okS_of o5.2⟩), .of (by rw [Term.ds_len, hl, show Tryz.prog.cellsOf 32 = 8 by kernel_rfl]) ?_⟩
    rw [show Term.ds (.mk a0 a1 a2 a3 a4 a5) = [I a0] ++ ([I a1] ++ ([S a2] ++ (a3.ds ++ ([strs a4] ++ ([Term.sl a5]))))) by first | (simp [Term.ds]; done) | simp [Term.ds, Term.sl]]
    exact q0.append (q1.append (q2.append (q3.append (q4.append (q5) (by first | rfl | simp [Term.ds_len, Typ.ds_len])) (by first | rfl | simp [Term.ds_len, Typ.ds_len])) (by first | rfl | simp [Term.ds_len, Typ.ds_len])) (by first | rfl | simp [Term.ds_len, Typ.ds_len])) (by first | rfl | simp [Term.ds_len, Typ.ds_len])
theorem Def.okS_of {l : List Def} (h : ∀ c ∈ l, c.ok) : Def.okS l := h
theorem Def.dec : ∀ n, Dec Tryz.prog n 34 Def.ds Def.ok
  | 0 => fun enc W base spare held fuel cs x hn h => by
    obtain ⟨xs, m, rfl, _⟩ := DataW.trod_struct Tryz.underlying34 h
    omega
  | n + 1 => fun enc W base spare held fuel cs x hn h => by
    obtain ⟨xs, m, rfl, _, hl, hxs, hf⟩ := DataW.trod_struct Tryz.underlying34 h
    have hm : m ≤ n := by omega
    obtain ⟨a0, o0, r0⟩ := Dec.field (Dec.str Tryz.underlying9) hm (hf 0 _ rfl) (by simp [hxs])
    have q0 : RdP (V0 W) [S a0] cs 0 := r0
    obtain ⟨a1, o1, r1⟩ := Dec.field (Typ.dec n) hm (hf 1 _ rfl) (by simp [hxs])
    have q1 : RdP (V0 W) a1.ds cs 1 := r1
    obtain ⟨a2, o2, r2⟩ := Dec.field (Term.dec n) hm (hf 2 _ rfl) (by simp [hxs])
    have q2 : RdP (V0 W) a2.ds cs 4 := r2
    refine ⟨.mk a0 a1 a2, (by simp only [Def.ok]; exact ⟨o0, o1, o2⟩), .of (by rw [Def.ds_len, hl, show Tryz.prog.cellsOf 34 = 12 by kernel_rfl]) ?_⟩
    rw [show Def.ds (.mk a0 a1 a2) = [S a0] ++ (a1.ds ++ (a2.ds)) by first | (simp [Def.ds]; done) | simp [Def.ds, Def.sl]]
    exact q0.append (q1.append (q2) (by first | rfl | simp [Term.ds_len, Typ.ds_len])) (by first | rfl | simp [Term.ds_len, Typ.ds_len])
theorem Prg.okS_of {l : List Prg} (h : ∀ c ∈ l, c.ok) : Prg.okS l := h
theorem Prg.dec : ∀ n, Dec Tryz.prog n 25 Prg.ds Prg.ok
  | 0 => fun enc W base spare held fuel cs x hn h => by
    obtain ⟨xs, m, rfl, _⟩ := DataW.trod_struct Tryz.underlying25 h
    omega
  | n + 1 => fun enc W base spare held fuel cs x hn h => by
    obtain ⟨xs, m, rfl, _, hl, hxs, hf⟩ := DataW.trod_struct Tryz.underlying25 h
    have hm : m ≤ n := by omega
    obtain ⟨a0, o0, r0⟩ := Dec.field (Dec.mono (Dec.slice (sz := 2) Tryz.underlying22 (by kernel_rfl) (by decide) Dat.ds_len (Dat.dec n)) (Nat.le_succ _)) hm (hf 0 _ rfl) (by simp [hxs])
    have q0 : RdP (V0 W) [Dat.sl a0] cs 0 := by simpa [Dat.sl, Dat.dsL_eq] using r0
    obtain ⟨a1, o1, r1⟩ := Dec.field (Dec.mono (Dec.slice (sz := 12) Tryz.underlying23 (by kernel_rfl) (by decide) Def.ds_len (Def.dec n)) (Nat.le_succ _)) hm (hf 1 _ rfl) (by simp [hxs])
    have q1 : RdP (V0 W) [Def.sl a1] cs 1 := by simpa [Def.sl, Def.dsL_eq] using r1
    refine ⟨.mk a0 a1, (by simp only [Prg.ok]; exact ⟨o0.1, Dat.okS_of o0.2, o1.1, Def.okS_of o1.2⟩), .of (by rw [Prg.ds_len, hl, show Tryz.prog.cellsOf 25 = 2 by kernel_rfl]) ?_⟩
    rw [show Prg.ds (.mk a0 a1) = [Dat.sl a0] ++ ([Def.sl a1]) by first | (simp [Prg.ds]; done) | simp [Prg.ds, Prg.sl]]
    exact q0.append (q1) (by first | rfl | simp [Dat.ds_len, Def.ds_len])
end Go.Proofs.YtcidmkcicagpaaaGreat
