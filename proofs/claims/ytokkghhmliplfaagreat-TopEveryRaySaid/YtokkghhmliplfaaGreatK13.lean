/- The row TopEveryRay of the program holds; part 14 of the proof. No condition. -/
import Derived.Test.YtokkghhmliplfaaGreatRows
import Derived.Test.YtokkghhmliplfaaGreatK12
set_option maxRecDepth 100000
set_option maxHeartbeats 12800000
set_option linter.all false
namespace Go.Proofs.YtokkghhmliplfaaGreat
section
open Go.ChangeShapes Go.WideShapes Go.ChangeAt Go.RowKit Go.Deep
theorem reach_lt : reachBytes < 4611686018427387904 := by unfold reachBytes; decide
section
variable {H : Type} {enc : TypeId × Value → H} {w : World} {base : Nat} {spare : Nat → Bool} {held : Bool}
theorem cellsO31 : Tryz.prog.cellsOf 31 = 11 := by kernel_rfl
theorem cellsO25 : Tryz.prog.cellsOf 25 = 5 := by kernel_rfl
theorem cellsO3 : Tryz.prog.cellsOf 3 = 1 := by kernel_rfl
theorem opn3 {cs : List Value} (h : Opn enc Tryz.prog w base spare held 3 cs) : ∃ a0 : Int, cs = [.int .i64 a0] := by
 obtain ⟨a, h1, _⟩ := h.int Tryz.underlying3
 exact ⟨a, h1⟩
theorem cellsO23 : Tryz.prog.cellsOf 23 = 2 := by kernel_rfl
theorem opn23 {cs : List Value} (h : Opn enc Tryz.prog w base spare held 23 cs) : ∃ (a0 : Int) (a1 : Int), cs = [.int .i64 a0, .int .i64 a1] := by
 obtain ⟨hl, hf⟩ := h.struct Tryz.underlying23 cellsO23
 have f0 : Opn enc Tryz.prog w base spare held 3 ((cs.drop 0).take (Tryz.prog.cellsOf 3)) := hf 0 _ rfl
 rw [cellsO3] at f0
 obtain ⟨a0, e0⟩ := opn3 f0
 have f1 : Opn enc Tryz.prog w base spare held 3 ((cs.drop 1).take (Tryz.prog.cellsOf 3)) := hf 1 _ rfl
 rw [cellsO3] at f1
 obtain ⟨a1, e1⟩ := opn3 f1
 clear hf h f0 f1
 match cs, hl with
 | [c0, c1], _ =>
   simp at e0 e1
   exact ⟨a0, a1, by simp [*]⟩
theorem opn25 {cs : List Value} (h : Opn enc Tryz.prog w base spare held 25 cs) : ∃ (a0 : Int) (a1 : Int) (a2 : Int) (a3 : Int) (a4 : Int), cs = [.int .i64 a0, .int .i64 a1, .int .i64 a2, .int .i64 a3, .int .i64 a4] := by
 obtain ⟨hl, hf⟩ := h.struct Tryz.underlying25 cellsO25
 have f0 : Opn enc Tryz.prog w base spare held 3 ((cs.drop 0).take (Tryz.prog.cellsOf 3)) := hf 0 _ rfl
 rw [cellsO3] at f0
 obtain ⟨a0, e0⟩ := opn3 f0
 have f1 : Opn enc Tryz.prog w base spare held 23 ((cs.drop 1).take (Tryz.prog.cellsOf 23)) := hf 1 _ rfl
 rw [cellsO23] at f1
 obtain ⟨a1, a2, e1⟩ := opn23 f1
 have f2 : Opn enc Tryz.prog w base spare held 3 ((cs.drop 3).take (Tryz.prog.cellsOf 3)) := hf 2 _ rfl
 rw [cellsO3] at f2
 obtain ⟨a3, e2⟩ := opn3 f2
 have f3 : Opn enc Tryz.prog w base spare held 3 ((cs.drop 4).take (Tryz.prog.cellsOf 3)) := hf 3 _ rfl
 rw [cellsO3] at f3
 obtain ⟨a4, e3⟩ := opn3 f3
 clear hf h f0 f1 f2 f3
 match cs, hl with
 | [c0, c1, c2, c3, c4], _ =>
   simp at e0 e1 e2 e3
   exact ⟨a0, a1, a2, a3, a4, by simp [*]⟩
theorem cellsO26 : Tryz.prog.cellsOf 26 = 1 := by kernel_rfl
theorem cellsO44 : Tryz.prog.cellsOf 44 = 20 := by kernel_rfl
theorem cellsO39 : Tryz.prog.cellsOf 39 = 1 := by kernel_rfl
theorem opn39 {cs : List Value} (h : Opn enc Tryz.prog w base spare held 39 cs) : ∃ a0 : Int, cs = [.int .i64 a0] := by
 obtain ⟨a, h1, _⟩ := h.int Tryz.underlying39
 exact ⟨a, h1⟩
theorem cellsO41 : Tryz.prog.cellsOf 41 = 3 := by kernel_rfl
theorem opn41 {cs : List Value} (h : Opn enc Tryz.prog w base spare held 41 cs) : ∃ (a0 : Int) (a1 : Int) (a2 : Int), cs = [.int .i64 a0, .int .i64 a1, .int .i64 a2] := by
 obtain ⟨hl, hf⟩ := h.struct Tryz.underlying41 cellsO41
 have f0 : Opn enc Tryz.prog w base spare held 23 ((cs.drop 0).take (Tryz.prog.cellsOf 23)) := hf 0 _ rfl
 rw [cellsO23] at f0
 obtain ⟨a0, a1, e0⟩ := opn23 f0
 have f1 : Opn enc Tryz.prog w base spare held 3 ((cs.drop 2).take (Tryz.prog.cellsOf 3)) := hf 1 _ rfl
 rw [cellsO3] at f1
 obtain ⟨a2, e1⟩ := opn3 f1
 clear hf h f0 f1
 match cs, hl with
 | [c0, c1, c2], _ =>
   simp at e0 e1
   exact ⟨a0, a1, a2, by simp [*]⟩
theorem cellsO4 : Tryz.prog.cellsOf 4 = 1 := by kernel_rfl
theorem opn4 {cs : List Value} (h : Opn enc Tryz.prog w base spare held 4 cs) : ∃ a0 : Bool, cs = [.bool a0] := h.bool Tryz.underlying4
theorem cellsO42 : Tryz.prog.cellsOf 42 = 1 := by kernel_rfl
theorem cellsO58 : Tryz.prog.cellsOf 58 = 10 := by kernel_rfl
theorem cellsO56 : Tryz.prog.cellsOf 56 = 3 := by kernel_rfl
theorem cellsO53 : Tryz.prog.cellsOf 53 = 1 := by kernel_rfl
theorem opn53 {cs : List Value} (h : Opn enc Tryz.prog w base spare held 53 cs) : ∃ a0 : Int, cs = [.int .i64 a0] := by
 obtain ⟨a, h1, _⟩ := h.int Tryz.underlying53
 exact ⟨a, h1⟩
theorem cellsO54 : Tryz.prog.cellsOf 54 = 1 := by kernel_rfl
theorem bytesO23 : Tryz.prog.bytesOf 23 = 16 := by kernel_rfl
theorem opn54 {cs : List Value} (h : Opn enc Tryz.prog w base spare held 54 cs) : ∃ a0 : Option Addr × List P2 × Nat, cs = [.slice a0.1 a0.2.1.length a0.2.2] ∧ (Sl 2 encV w a0.1 a0.2.1 ∧ a0.2.1.length ≤ reachBytes) := by
 have hel : ∀ cs', Opn enc Tryz.prog w base spare held 23 cs' → ∃ d, cs' = encV d ∧ (fun _ => True) d := by
   intro cs' h'
   obtain ⟨a0, a1, rfl⟩ := opn23 h'
   exact ⟨(a0, a1), rfl, trivial⟩
 obtain ⟨a, l, cap, h1, h2, h3, h4⟩ := h.slice (e' := encV) (ok := (fun _ => True)) Tryz.underlying54 cellsO23 bytesO23 (by decide) (by decide) (fun _ => rfl) hel
 exact ⟨(a, l, cap), h1, h2, h3⟩
theorem opn56 {cs : List Value} (h : Opn enc Tryz.prog w base spare held 56 cs) : ∃ (a0 : Int) (a1 : Int) (a2 : Option Addr × List P2 × Nat), cs = [.int .i64 a0, .int .i64 a1, .slice a2.1 a2.2.1.length a2.2.2] ∧ (Sl 2 encV w a2.1 a2.2.1 ∧ a2.2.1.length ≤ reachBytes) := by
 obtain ⟨hl, hf⟩ := h.struct Tryz.underlying56 cellsO56
 have f0 : Opn enc Tryz.prog w base spare held 53 ((cs.drop 0).take (Tryz.prog.cellsOf 53)) := hf 0 _ rfl
 rw [cellsO53] at f0
 obtain ⟨a0, e0⟩ := opn53 f0
 have f1 : Opn enc Tryz.prog w base spare held 3 ((cs.drop 1).take (Tryz.prog.cellsOf 3)) := hf 1 _ rfl
 rw [cellsO3] at f1
 obtain ⟨a1, e1⟩ := opn3 f1
 have f2 : Opn enc Tryz.prog w base spare held 54 ((cs.drop 2).take (Tryz.prog.cellsOf 54)) := hf 2 _ rfl
 rw [cellsO54] at f2
 obtain ⟨a2, e2, p2⟩ := opn54 f2
 clear hf h f0 f1 f2
 match cs, hl with
 | [c0, c1, c2], _ =>
   simp at e0 e1 e2
   exact ⟨a0, a1, a2, by simp [*], p2⟩
theorem opn58 {cs : List Value} (h : Opn enc Tryz.prog w base spare held 58 cs) : ∃ (a0 : Int) (a1 : Int) (a2 : Option Addr × List P2 × Nat) (a3 : Int) (a4 : Int) (a5 : Int) (a6 : Bool) (a7 : Int) (a8 : Int) (a9 : Int), cs = [.int .i64 a0, .int .i64 a1, .slice a2.1 a2.2.1.length a2.2.2, .int .i64 a3, .int .i64 a4, .int .i64 a5, .bool a6, .int .i64 a7, .int .i64 a8, .int .i64 a9] ∧ (Sl 2 encV w a2.1 a2.2.1 ∧ a2.2.1.length ≤ reachBytes) := by
 obtain ⟨hl, hf⟩ := h.struct Tryz.underlying58 cellsO58
 have f0 : Opn enc Tryz.prog w base spare held 56 ((cs.drop 0).take (Tryz.prog.cellsOf 56)) := hf 0 _ rfl
 rw [cellsO56] at f0
 obtain ⟨a0, a1, a2, e0, p2⟩ := opn56 f0
 have f1 : Opn enc Tryz.prog w base spare held 3 ((cs.drop 3).take (Tryz.prog.cellsOf 3)) := hf 1 _ rfl
 rw [cellsO3] at f1
 obtain ⟨a3, e1⟩ := opn3 f1
 have f2 : Opn enc Tryz.prog w base spare held 3 ((cs.drop 4).take (Tryz.prog.cellsOf 3)) := hf 2 _ rfl
 rw [cellsO3] at f2
 obtain ⟨a4, e2⟩ := opn3 f2
 have f3 : Opn enc Tryz.prog w base spare held 3 ((cs.drop 5).take (Tryz.prog.cellsOf 3)) := hf 3 _ rfl
 rw [cellsO3] at f3
 obtain ⟨a5, e3⟩ := opn3 f3
 have f4 : Opn enc Tryz.prog w base spare held 4 ((cs.drop 6).take (Tryz.prog.cellsOf 4)) := hf 4 _ rfl
 rw [cellsO4] at f4
 obtain ⟨a6, e4⟩ := opn4 f4
 have f5 : Opn enc Tryz.prog w base spare held 3 ((cs.drop 7).take (Tryz.prog.cellsOf 3)) := hf 5 _ rfl
 rw [cellsO3] at f5
 obtain ⟨a7, e5⟩ := opn3 f5
 have f6 : Opn enc Tryz.prog w base spare held 3 ((cs.drop 8).take (Tryz.prog.cellsOf 3)) := hf 6 _ rfl
 rw [cellsO3] at f6
 obtain ⟨a8, e6⟩ := opn3 f6
 have f7 : Opn enc Tryz.prog w base spare held 3 ((cs.drop 9).take (Tryz.prog.cellsOf 3)) := hf 7 _ rfl
 rw [cellsO3] at f7
 obtain ⟨a9, e7⟩ := opn3 f7
 clear hf h f0 f1 f2 f3 f4 f5 f6 f7
 match cs, hl with
 | [c0, c1, c2, c3, c4, c5, c6, c7, c8, c9], _ =>
   simp at e0 e1 e2 e3 e4 e5 e6 e7
   exact ⟨a0, a1, a2, a3, a4, a5, a6, a7, a8, a9, by simp [*], p2⟩
theorem bytesO58 : Tryz.prog.bytesOf 58 = 96 := by kernel_rfl
theorem opn42 {cs : List Value} (h : Opn enc Tryz.prog w base spare held 42 cs) : ∃ a0 : Option Addr × List FixV × Nat, cs = [.slice a0.1 a0.2.1.length a0.2.2] ∧ (Sl 10 encFixV w a0.1 a0.2.1 ∧ a0.2.1.length ≤ reachBytes ∧ ∀ x ∈ a0.2.1, FixOk w x) := by
 have hel : ∀ cs', Opn enc Tryz.prog w base spare held 58 cs' → ∃ d, cs' = encFixV d ∧ (fun x => FixOk w x) d := by
   intro cs' h'
   obtain ⟨a0, a1, a2, a3, a4, a5, a6, a7, a8, a9, rfl, p2⟩ := opn58 h'
   exact ⟨⟨a0, a1, a2.1, a2.2.2, a2.2.1, a3, a4, a5, a6, a7, a8, a9⟩, rfl, ⟨p2.1, Nat.lt_of_le_of_lt p2.2 reach_lt⟩⟩
 obtain ⟨a, l, cap, h1, h2, h3, h4⟩ := h.slice (e' := encFixV) (ok := (fun x => FixOk w x)) Tryz.underlying42 cellsO58 bytesO58 (by decide) (by decide) (fun _ => rfl) hel
 exact ⟨(a, l, cap), h1, h2, h3, h4⟩
theorem opn44 {cs : List Value} (h : Opn enc Tryz.prog w base spare held 44 cs) : ∃ (a0 : Int) (a1 : Int) (a2 : Int) (a3 : Int) (a4 : Int) (a5 : Int) (a6 : Int) (a7 : Int) (a8 : Int) (a9 : Int) (a10 : Int) (a11 : Int) (a12 : Int) (a13 : Int) (a14 : Bool) (a15 : Bool) (a16 : Bool) (a17 : Bool) (a18 : Int) (a19 : Option Addr × List FixV × Nat), cs = [.int .i64 a0, .int .i64 a1, .int .i64 a2, .int .i64 a3, .int .i64 a4, .int .i64 a5, .int .i64 a6, .int .i64 a7, .int .i64 a8, .int .i64 a9, .int .i64 a10, .int .i64 a11, .int .i64 a12, .int .i64 a13, .bool a14, .bool a15, .bool a16, .bool a17, .int .i64 a18, .slice a19.1 a19.2.1.length a19.2.2] ∧ (Sl 10 encFixV w a19.1 a19.2.1 ∧ a19.2.1.length ≤ reachBytes ∧ ∀ x ∈ a19.2.1, FixOk w x) := by
 obtain ⟨hl, hf⟩ := h.struct Tryz.underlying44 cellsO44
 have f0 : Opn enc Tryz.prog w base spare held 3 ((cs.drop 0).take (Tryz.prog.cellsOf 3)) := hf 0 _ rfl
 rw [cellsO3] at f0
 obtain ⟨a0, e0⟩ := opn3 f0
 have f1 : Opn enc Tryz.prog w base spare held 39 ((cs.drop 1).take (Tryz.prog.cellsOf 39)) := hf 1 _ rfl
 rw [cellsO39] at f1
 obtain ⟨a1, e1⟩ := opn39 f1
 have f2 : Opn enc Tryz.prog w base spare held 41 ((cs.drop 2).take (Tryz.prog.cellsOf 41)) := hf 2 _ rfl
 rw [cellsO41] at f2
 obtain ⟨a2, a3, a4, e2⟩ := opn41 f2
 have f3 : Opn enc Tryz.prog w base spare held 23 ((cs.drop 5).take (Tryz.prog.cellsOf 23)) := hf 3 _ rfl
 rw [cellsO23] at f3
 obtain ⟨a5, a6, e3⟩ := opn23 f3
 have f4 : Opn enc Tryz.prog w base spare held 3 ((cs.drop 7).take (Tryz.prog.cellsOf 3)) := hf 4 _ rfl
 rw [cellsO3] at f4
 obtain ⟨a7, e4⟩ := opn3 f4
 have f5 : Opn enc Tryz.prog w base spare held 23 ((cs.drop 8).take (Tryz.prog.cellsOf 23)) := hf 5 _ rfl
 rw [cellsO23] at f5
 obtain ⟨a8, a9, e5⟩ := opn23 f5
 have f6 : Opn enc Tryz.prog w base spare held 3 ((cs.drop 10).take (Tryz.prog.cellsOf 3)) := hf 6 _ rfl
 rw [cellsO3] at f6
 obtain ⟨a10, e6⟩ := opn3 f6
 have f7 : Opn enc Tryz.prog w base spare held 3 ((cs.drop 11).take (Tryz.prog.cellsOf 3)) := hf 7 _ rfl
 rw [cellsO3] at f7
 obtain ⟨a11, e7⟩ := opn3 f7
 have f8 : Opn enc Tryz.prog w base spare held 3 ((cs.drop 12).take (Tryz.prog.cellsOf 3)) := hf 8 _ rfl
 rw [cellsO3] at f8
 obtain ⟨a12, e8⟩ := opn3 f8
 have f9 : Opn enc Tryz.prog w base spare held 3 ((cs.drop 13).take (Tryz.prog.cellsOf 3)) := hf 9 _ rfl
 rw [cellsO3] at f9
 obtain ⟨a13, e9⟩ := opn3 f9
 have f10 : Opn enc Tryz.prog w base spare held 4 ((cs.drop 14).take (Tryz.prog.cellsOf 4)) := hf 10 _ rfl
 rw [cellsO4] at f10
 obtain ⟨a14, e10⟩ := opn4 f10
 have f11 : Opn enc Tryz.prog w base spare held 4 ((cs.drop 15).take (Tryz.prog.cellsOf 4)) := hf 11 _ rfl
 rw [cellsO4] at f11
 obtain ⟨a15, e11⟩ := opn4 f11
 have f12 : Opn enc Tryz.prog w base spare held 4 ((cs.drop 16).take (Tryz.prog.cellsOf 4)) := hf 12 _ rfl
 rw [cellsO4] at f12
 obtain ⟨a16, e12⟩ := opn4 f12
 have f13 : Opn enc Tryz.prog w base spare held 4 ((cs.drop 17).take (Tryz.prog.cellsOf 4)) := hf 13 _ rfl
 rw [cellsO4] at f13
 obtain ⟨a17, e13⟩ := opn4 f13
 have f14 : Opn enc Tryz.prog w base spare held 3 ((cs.drop 18).take (Tryz.prog.cellsOf 3)) := hf 14 _ rfl
 rw [cellsO3] at f14
 obtain ⟨a18, e14⟩ := opn3 f14
 have f15 : Opn enc Tryz.prog w base spare held 42 ((cs.drop 19).take (Tryz.prog.cellsOf 42)) := hf 15 _ rfl
 rw [cellsO42] at f15
 obtain ⟨a19, e15, p19⟩ := opn42 f15
 clear hf h f0 f1 f2 f3 f4 f5 f6 f7 f8 f9 f10 f11 f12 f13 f14 f15
 match cs, hl with
 | [c0, c1, c2, c3, c4, c5, c6, c7, c8, c9, c10, c11, c12, c13, c14, c15, c16, c17, c18, c19], _ =>
   simp at e0 e1 e2 e3 e4 e5 e6 e7 e8 e9 e10 e11 e12 e13 e14 e15
   exact ⟨a0, a1, a2, a3, a4, a5, a6, a7, a8, a9, a10, a11, a12, a13, a14, a15, a16, a17, a18, a19, by simp [*], p19⟩
theorem bytesO44 : Tryz.prog.bytesOf 44 = 152 := by kernel_rfl
theorem opn26 {cs : List Value} (h : Opn enc Tryz.prog w base spare held 26 cs) : ∃ a0 : Option Addr × List BodyV × Nat, cs = [.slice a0.1 a0.2.1.length a0.2.2] ∧ (Sl 20 encBodyV w a0.1 a0.2.1 ∧ a0.2.1.length ≤ reachBytes ∧ ∀ x ∈ a0.2.1, BodyOk w x) := by
 have hel : ∀ cs', Opn enc Tryz.prog w base spare held 44 cs' → ∃ d, cs' = encBodyV d ∧ (fun x => BodyOk w x) d := by
   intro cs' h'
   obtain ⟨a0, a1, a2, a3, a4, a5, a6, a7, a8, a9, a10, a11, a12, a13, a14, a15, a16, a17, a18, a19, rfl, p19⟩ := opn44 h'
   exact ⟨⟨a0, a1, a2, a3, a4, a5, a6, a7, a8, a9, a10, a11, a12, a13, a14, a15, a16, a17, a18, a19.1, a19.2.2, a19.2.1⟩, rfl, ⟨p19.1, Nat.lt_of_le_of_lt p19.2.1 reach_lt, p19.2.2⟩⟩
 obtain ⟨a, l, cap, h1, h2, h3, h4⟩ := h.slice (e' := encBodyV) (ok := (fun x => BodyOk w x)) Tryz.underlying26 cellsO44 bytesO44 (by decide) (by decide) (fun _ => rfl) hel
 exact ⟨(a, l, cap), h1, h2, h3, h4⟩
theorem cellsO27 : Tryz.prog.cellsOf 27 = 1 := by kernel_rfl
theorem cellsO70 : Tryz.prog.cellsOf 70 = 24 := by kernel_rfl
theorem cellsO67 : Tryz.prog.cellsOf 67 = 1 := by kernel_rfl
theorem opn67 {cs : List Value} (h : Opn enc Tryz.prog w base spare held 67 cs) : ∃ a0 : Int, cs = [.int .i64 a0] := by
 obtain ⟨a, h1, _⟩ := h.int Tryz.underlying67
 exact ⟨a, h1⟩
theorem cellsO68 : Tryz.prog.cellsOf 68 = 4 := by kernel_rfl
theorem opn68 {cs : List Value} (h : Opn enc Tryz.prog w base spare held 68 cs) : ∃ (a0 : Int) (a1 : Int) (a2 : Int) (a3 : Int), cs = [.int .i64 a0, .int .i64 a1, .int .i64 a2, .int .i64 a3] := by
 obtain ⟨hl, hf⟩ := h.array Tryz.underlying68 cellsO68
 obtain ⟨n0, x0, f0⟩ := hf 0 (by decide)
 rw [cellsO3] at f0
 obtain ⟨a0, e0, _, _⟩ := DataW.trod_int Tryz.underlying3 f0
 obtain ⟨n1, x1, f1⟩ := hf 1 (by decide)
 rw [cellsO3] at f1
 obtain ⟨a1, e1, _, _⟩ := DataW.trod_int Tryz.underlying3 f1
 obtain ⟨n2, x2, f2⟩ := hf 2 (by decide)
 rw [cellsO3] at f2
 obtain ⟨a2, e2, _, _⟩ := DataW.trod_int Tryz.underlying3 f2
 obtain ⟨n3, x3, f3⟩ := hf 3 (by decide)
 rw [cellsO3] at f3
 obtain ⟨a3, e3, _, _⟩ := DataW.trod_int Tryz.underlying3 f3
 clear hf h f0 f1 f2 f3
 match cs, hl with
 | [c0, c1, c2, c3], _ =>
   simp at e0 e1 e2 e3
   exact ⟨a0, a1, a2, a3, by simp [*]⟩
theorem opn70 {cs : List Value} (h : Opn enc Tryz.prog w base spare held 70 cs) : ∃ (a0 : Int) (a1 : Int) (a2 : Int) (a3 : Int) (a4 : Int) (a5 : Int) (a6 : Int) (a7 : Int) (a8 : Int) (a9 : Int) (a10 : Int) (a11 : Bool) (a12 : Int) (a13 : Int) (a14 : Bool) (a15 : Int) (a16 : Int) (a17 : Int) (a18 : Int) (a19 : Bool) (a20 : Int) (a21 : Int) (a22 : Int) (a23 : Int), cs = [.int .i64 a0, .int .i64 a1, .int .i64 a2, .int .i64 a3, .int .i64 a4, .int .i64 a5, .int .i64 a6, .int .i64 a7, .int .i64 a8, .int .i64 a9, .int .i64 a10, .bool a11, .int .i64 a12, .int .i64 a13, .bool a14, .int .i64 a15, .int .i64 a16, .int .i64 a17, .int .i64 a18, .bool a19, .int .i64 a20, .int .i64 a21, .int .i64 a22, .int .i64 a23] := by
 obtain ⟨hl, hf⟩ := h.struct Tryz.underlying70 cellsO70
 have f0 : Opn enc Tryz.prog w base spare held 3 ((cs.drop 0).take (Tryz.prog.cellsOf 3)) := hf 0 _ rfl
 rw [cellsO3] at f0
 obtain ⟨a0, e0⟩ := opn3 f0
 have f1 : Opn enc Tryz.prog w base spare held 67 ((cs.drop 1).take (Tryz.prog.cellsOf 67)) := hf 1 _ rfl
 rw [cellsO67] at f1
 obtain ⟨a1, e1⟩ := opn67 f1
 have f2 : Opn enc Tryz.prog w base spare held 3 ((cs.drop 2).take (Tryz.prog.cellsOf 3)) := hf 2 _ rfl
 rw [cellsO3] at f2
 obtain ⟨a2, e2⟩ := opn3 f2
 have f3 : Opn enc Tryz.prog w base spare held 3 ((cs.drop 3).take (Tryz.prog.cellsOf 3)) := hf 3 _ rfl
 rw [cellsO3] at f3
 obtain ⟨a3, e3⟩ := opn3 f3
 have f4 : Opn enc Tryz.prog w base spare held 23 ((cs.drop 4).take (Tryz.prog.cellsOf 23)) := hf 4 _ rfl
 rw [cellsO23] at f4
 obtain ⟨a4, a5, e4⟩ := opn23 f4
 have f5 : Opn enc Tryz.prog w base spare held 23 ((cs.drop 6).take (Tryz.prog.cellsOf 23)) := hf 5 _ rfl
 rw [cellsO23] at f5
 obtain ⟨a6, a7, e5⟩ := opn23 f5
 have f6 : Opn enc Tryz.prog w base spare held 23 ((cs.drop 8).take (Tryz.prog.cellsOf 23)) := hf 6 _ rfl
 rw [cellsO23] at f6
 obtain ⟨a8, a9, e6⟩ := opn23 f6
 have f7 : Opn enc Tryz.prog w base spare held 3 ((cs.drop 10).take (Tryz.prog.cellsOf 3)) := hf 7 _ rfl
 rw [cellsO3] at f7
 obtain ⟨a10, e7⟩ := opn3 f7
 have f8 : Opn enc Tryz.prog w base spare held 4 ((cs.drop 11).take (Tryz.prog.cellsOf 4)) := hf 8 _ rfl
 rw [cellsO4] at f8
 obtain ⟨a11, e8⟩ := opn4 f8
 have f9 : Opn enc Tryz.prog w base spare held 3 ((cs.drop 12).take (Tryz.prog.cellsOf 3)) := hf 9 _ rfl
 rw [cellsO3] at f9
 obtain ⟨a12, e9⟩ := opn3 f9
 have f10 : Opn enc Tryz.prog w base spare held 3 ((cs.drop 13).take (Tryz.prog.cellsOf 3)) := hf 10 _ rfl
 rw [cellsO3] at f10
 obtain ⟨a13, e10⟩ := opn3 f10
 have f11 : Opn enc Tryz.prog w base spare held 4 ((cs.drop 14).take (Tryz.prog.cellsOf 4)) := hf 11 _ rfl
 rw [cellsO4] at f11
 obtain ⟨a14, e11⟩ := opn4 f11
 have f12 : Opn enc Tryz.prog w base spare held 3 ((cs.drop 15).take (Tryz.prog.cellsOf 3)) := hf 12 _ rfl
 rw [cellsO3] at f12
 obtain ⟨a15, e12⟩ := opn3 f12
 have f13 : Opn enc Tryz.prog w base spare held 3 ((cs.drop 16).take (Tryz.prog.cellsOf 3)) := hf 13 _ rfl
 rw [cellsO3] at f13
 obtain ⟨a16, e13⟩ := opn3 f13
 have f14 : Opn enc Tryz.prog w base spare held 3 ((cs.drop 17).take (Tryz.prog.cellsOf 3)) := hf 14 _ rfl
 rw [cellsO3] at f14
 obtain ⟨a17, e14⟩ := opn3 f14
 have f15 : Opn enc Tryz.prog w base spare held 3 ((cs.drop 18).take (Tryz.prog.cellsOf 3)) := hf 15 _ rfl
 rw [cellsO3] at f15
 obtain ⟨a18, e15⟩ := opn3 f15
 have f16 : Opn enc Tryz.prog w base spare held 4 ((cs.drop 19).take (Tryz.prog.cellsOf 4)) := hf 16 _ rfl
 rw [cellsO4] at f16
 obtain ⟨a19, e16⟩ := opn4 f16
 have f17 : Opn enc Tryz.prog w base spare held 68 ((cs.drop 20).take (Tryz.prog.cellsOf 68)) := hf 17 _ rfl
 rw [cellsO68] at f17
 obtain ⟨a20, a21, a22, a23, e17⟩ := opn68 f17
 clear hf h f0 f1 f2 f3 f4 f5 f6 f7 f8 f9 f10 f11 f12 f13 f14 f15 f16 f17
 match cs, hl with
 | [c0, c1, c2, c3, c4, c5, c6, c7, c8, c9, c10, c11, c12, c13, c14, c15, c16, c17, c18, c19, c20, c21, c22, c23], _ =>
   simp at e0 e1 e2 e3 e4 e5 e6 e7 e8 e9 e10 e11 e12 e13 e14 e15 e16 e17
   exact ⟨a0, a1, a2, a3, a4, a5, a6, a7, a8, a9, a10, a11, a12, a13, a14, a15, a16, a17, a18, a19, a20, a21, a22, a23, by simp [*]⟩
theorem bytesO70 : Tryz.prog.bytesOf 70 = 192 := by kernel_rfl
theorem opn27 {cs : List Value} (h : Opn enc Tryz.prog w base spare held 27 cs) : ∃ a0 : Option Addr × List JointV × Nat, cs = [.slice a0.1 a0.2.1.length a0.2.2] ∧ (Sl 24 encJointV w a0.1 a0.2.1 ∧ a0.2.1.length ≤ reachBytes) := by
 have hel : ∀ cs', Opn enc Tryz.prog w base spare held 70 cs' → ∃ d, cs' = encJointV d ∧ (fun _ => True) d := by
   intro cs' h'
   obtain ⟨a0, a1, a2, a3, a4, a5, a6, a7, a8, a9, a10, a11, a12, a13, a14, a15, a16, a17, a18, a19, a20, a21, a22, a23, rfl⟩ := opn70 h'
   exact ⟨⟨a0, a1, a2, a3, a4, a5, a6, a7, a8, a9, a10, a11, a12, a13, a14, a15, a16, a17, a18, a19, a20, a21, a22, a23⟩, rfl, trivial⟩
 obtain ⟨a, l, cap, h1, h2, h3, h4⟩ := h.slice (e' := encJointV) (ok := (fun _ => True)) Tryz.underlying27 cellsO70 bytesO70 (by decide) (by decide) (fun _ => rfl) hel
 exact ⟨(a, l, cap), h1, h2, h3⟩
theorem cellsO28 : Tryz.prog.cellsOf 28 = 1 := by kernel_rfl
theorem cellsO99 : Tryz.prog.cellsOf 99 = 7 := by kernel_rfl
theorem cellsO94 : Tryz.prog.cellsOf 94 = 4 := by kernel_rfl
theorem opn94 {cs : List Value} (h : Opn enc Tryz.prog w base spare held 94 cs) : ∃ (a0 : Int) (a1 : Int) (a2 : Int) (a3 : Int), cs = [.int .i64 a0, .int .i64 a1, .int .i64 a2, .int .i64 a3] := by
 obtain ⟨hl, hf⟩ := h.struct Tryz.underlying94 cellsO94
 have f0 : Opn enc Tryz.prog w base spare held 3 ((cs.drop 0).take (Tryz.prog.cellsOf 3)) := hf 0 _ rfl
 rw [cellsO3] at f0
 obtain ⟨a0, e0⟩ := opn3 f0
 have f1 : Opn enc Tryz.prog w base spare held 3 ((cs.drop 1).take (Tryz.prog.cellsOf 3)) := hf 1 _ rfl
 rw [cellsO3] at f1
 obtain ⟨a1, e1⟩ := opn3 f1
 have f2 : Opn enc Tryz.prog w base spare held 3 ((cs.drop 2).take (Tryz.prog.cellsOf 3)) := hf 2 _ rfl
 rw [cellsO3] at f2
 obtain ⟨a2, e2⟩ := opn3 f2
 have f3 : Opn enc Tryz.prog w base spare held 3 ((cs.drop 3).take (Tryz.prog.cellsOf 3)) := hf 3 _ rfl
 rw [cellsO3] at f3
 obtain ⟨a3, e3⟩ := opn3 f3
 clear hf h f0 f1 f2 f3
 match cs, hl with
 | [c0, c1, c2, c3], _ =>
   simp at e0 e1 e2 e3
   exact ⟨a0, a1, a2, a3, by simp [*]⟩
theorem cellsO97 : Tryz.prog.cellsOf 97 = 3 := by kernel_rfl
theorem cellsO95 : Tryz.prog.cellsOf 95 = 1 := by kernel_rfl
theorem cellsO143 : Tryz.prog.cellsOf 143 = 6 := by kernel_rfl
theorem opn143 {cs : List Value} (h : Opn enc Tryz.prog w base spare held 143 cs) : ∃ (a0 : Int) (a1 : Int) (a2 : Int) (a3 : Int) (a4 : Int) (a5 : Int), cs = [.int .i64 a0, .int .i64 a1, .int .i64 a2, .int .i64 a3, .int .i64 a4, .int .i64 a5] := by
 obtain ⟨hl, hf⟩ := h.struct Tryz.underlying143 cellsO143
 have f0 : Opn enc Tryz.prog w base spare held 23 ((cs.drop 0).take (Tryz.prog.cellsOf 23)) := hf 0 _ rfl
 rw [cellsO23] at f0
 obtain ⟨a0, a1, e0⟩ := opn23 f0
 have f1 : Opn enc Tryz.prog w base spare held 3 ((cs.drop 2).take (Tryz.prog.cellsOf 3)) := hf 1 _ rfl
 rw [cellsO3] at f1
 obtain ⟨a2, e1⟩ := opn3 f1
 have f2 : Opn enc Tryz.prog w base spare held 3 ((cs.drop 3).take (Tryz.prog.cellsOf 3)) := hf 2 _ rfl
 rw [cellsO3] at f2
 obtain ⟨a3, e2⟩ := opn3 f2
 have f3 : Opn enc Tryz.prog w base spare held 3 ((cs.drop 4).take (Tryz.prog.cellsOf 3)) := hf 3 _ rfl
 rw [cellsO3] at f3
 obtain ⟨a4, e3⟩ := opn3 f3
 have f4 : Opn enc Tryz.prog w base spare held 3 ((cs.drop 5).take (Tryz.prog.cellsOf 3)) := hf 4 _ rfl
 rw [cellsO3] at f4
 obtain ⟨a5, e4⟩ := opn3 f4
 clear hf h f0 f1 f2 f3 f4
 match cs, hl with
 | [c0, c1, c2, c3, c4, c5], _ =>
   simp at e0 e1 e2 e3 e4
   exact ⟨a0, a1, a2, a3, a4, a5, by simp [*]⟩
theorem bytesO143 : Tryz.prog.bytesOf 143 = 48 := by kernel_rfl
theorem opn95 {cs : List Value} (h : Opn enc Tryz.prog w base spare held 95 cs) : ∃ a0 : Option Addr × List PtV × Nat, cs = [.slice a0.1 a0.2.1.length a0.2.2] ∧ (Sl 6 encPtV w a0.1 a0.2.1 ∧ a0.2.1.length ≤ reachBytes) := by
 have hel : ∀ cs', Opn enc Tryz.prog w base spare held 143 cs' → ∃ d, cs' = encPtV d ∧ (fun _ => True) d := by
   intro cs' h'
   obtain ⟨a0, a1, a2, a3, a4, a5, rfl⟩ := opn143 h'
   exact ⟨⟨a0, a1, a2, a3, a4, a5⟩, rfl, trivial⟩
 obtain ⟨a, l, cap, h1, h2, h3, h4⟩ := h.slice (e' := encPtV) (ok := (fun _ => True)) Tryz.underlying95 cellsO143 bytesO143 (by decide) (by decide) (fun _ => rfl) hel
 exact ⟨(a, l, cap), h1, h2, h3⟩
theorem opn97 {cs : List Value} (h : Opn enc Tryz.prog w base spare held 97 cs) : ∃ (a0 : Int) (a1 : Int) (a2 : Option Addr × List PtV × Nat), cs = [.int .i64 a0, .int .i64 a1, .slice a2.1 a2.2.1.length a2.2.2] ∧ (Sl 6 encPtV w a2.1 a2.2.1 ∧ a2.2.1.length ≤ reachBytes) := by
 obtain ⟨hl, hf⟩ := h.struct Tryz.underlying97 cellsO97
 have f0 : Opn enc Tryz.prog w base spare held 23 ((cs.drop 0).take (Tryz.prog.cellsOf 23)) := hf 0 _ rfl
 rw [cellsO23] at f0
 obtain ⟨a0, a1, e0⟩ := opn23 f0
 have f1 : Opn enc Tryz.prog w base spare held 95 ((cs.drop 2).take (Tryz.prog.cellsOf 95)) := hf 1 _ rfl
 rw [cellsO95] at f1
 obtain ⟨a2, e1, p2⟩ := opn95 f1
 clear hf h f0 f1
 match cs, hl with
 | [c0, c1, c2], _ =>
   simp at e0 e1
   exact ⟨a0, a1, a2, by simp [*], p2⟩
theorem opn99 {cs : List Value} (h : Opn enc Tryz.prog w base spare held 99 cs) : ∃ (a0 : Int) (a1 : Int) (a2 : Int) (a3 : Int) (a4 : Int) (a5 : Int) (a6 : Option Addr × List PtV × Nat), cs = [.int .i64 a0, .int .i64 a1, .int .i64 a2, .int .i64 a3, .int .i64 a4, .int .i64 a5, .slice a6.1 a6.2.1.length a6.2.2] ∧ (Sl 6 encPtV w a6.1 a6.2.1 ∧ a6.2.1.length ≤ reachBytes) := by
 obtain ⟨hl, hf⟩ := h.struct Tryz.underlying99 cellsO99
 have f0 : Opn enc Tryz.prog w base spare held 94 ((cs.drop 0).take (Tryz.prog.cellsOf 94)) := hf 0 _ rfl
 rw [cellsO94] at f0
 obtain ⟨a0, a1, a2, a3, e0⟩ := opn94 f0
 have f1 : Opn enc Tryz.prog w base spare held 97 ((cs.drop 4).take (Tryz.prog.cellsOf 97)) := hf 1 _ rfl
 rw [cellsO97] at f1
 obtain ⟨a4, a5, a6, e1, p6⟩ := opn97 f1
 clear hf h f0 f1
 match cs, hl with
 | [c0, c1, c2, c3, c4, c5, c6], _ =>
   simp at e0 e1
   exact ⟨a0, a1, a2, a3, a4, a5, a6, by simp [*], p6⟩
theorem bytesO99 : Tryz.prog.bytesOf 99 = 72 := by kernel_rfl
theorem opn28 {cs : List Value} (h : Opn enc Tryz.prog w base spare held 28 cs) : ∃ a0 : Option Addr × List CtV × Nat, cs = [.slice a0.1 a0.2.1.length a0.2.2] ∧ (Sl 7 encCtV w a0.1 a0.2.1 ∧ a0.2.1.length ≤ reachBytes ∧ ∀ x ∈ a0.2.1, CtOk w x) := by
 have hel : ∀ cs', Opn enc Tryz.prog w base spare held 99 cs' → ∃ d, cs' = encCtV d ∧ (fun x => CtOk w x) d := by
   intro cs' h'
   obtain ⟨a0, a1, a2, a3, a4, a5, a6, rfl, p6⟩ := opn99 h'
   exact ⟨⟨a0, a1, a2, a3, a4, a5, a6.1, a6.2.2, a6.2.1⟩, rfl, ⟨p6.1, Nat.lt_of_le_of_lt p6.2 reach_lt⟩⟩
 obtain ⟨a, l, cap, h1, h2, h3, h4⟩ := h.slice (e' := encCtV) (ok := (fun x => CtOk w x)) Tryz.underlying28 cellsO99 bytesO99 (by decide) (by decide) (fun _ => rfl) hel
 exact ⟨(a, l, cap), h1, h2, h3, h4⟩
theorem cellsO29 : Tryz.prog.cellsOf 29 = 1 := by kernel_rfl
theorem bytesO94 : Tryz.prog.bytesOf 94 = 32 := by kernel_rfl
theorem opn29 {cs : List Value} (h : Opn enc Tryz.prog w base spare held 29 cs) : ∃ a0 : Option Addr × List PkV × Nat, cs = [.slice a0.1 a0.2.1.length a0.2.2] ∧ (Sl 4 encPkV w a0.1 a0.2.1 ∧ a0.2.1.length ≤ reachBytes) := by
 have hel : ∀ cs', Opn enc Tryz.prog w base spare held 94 cs' → ∃ d, cs' = encPkV d ∧ (fun _ => True) d := by
   intro cs' h'
   obtain ⟨a0, a1, a2, a3, rfl⟩ := opn94 h'
   exact ⟨⟨a0, a1, a2, a3⟩, rfl, trivial⟩
 obtain ⟨a, l, cap, h1, h2, h3, h4⟩ := h.slice (e' := encPkV) (ok := (fun _ => True)) Tryz.underlying29 cellsO94 bytesO94 (by decide) (by decide) (fun _ => rfl) hel
 exact ⟨(a, l, cap), h1, h2, h3⟩
theorem opn31 {cs : List Value} (h : Opn enc Tryz.prog w base spare held 31 cs) : ∃ (a0 : Int) (a1 : Int) (a2 : Int) (a3 : Int) (a4 : Int) (a5 : Option Addr × List BodyV × Nat) (a6 : Option Addr × List JointV × Nat) (a7 : Option Addr × List CtV × Nat) (a8 : Option Addr × List PkV × Nat) (a9 : Int) (a10 : Int), cs = [.int .i64 a0, .int .i64 a1, .int .i64 a2, .int .i64 a3, .int .i64 a4, .slice a5.1 a5.2.1.length a5.2.2, .slice a6.1 a6.2.1.length a6.2.2, .slice a7.1 a7.2.1.length a7.2.2, .slice a8.1 a8.2.1.length a8.2.2, .int .i64 a9, .int .i64 a10] ∧ (Sl 20 encBodyV w a5.1 a5.2.1 ∧ a5.2.1.length ≤ reachBytes ∧ ∀ x ∈ a5.2.1, BodyOk w x) ∧ (Sl 24 encJointV w a6.1 a6.2.1 ∧ a6.2.1.length ≤ reachBytes) ∧ (Sl 7 encCtV w a7.1 a7.2.1 ∧ a7.2.1.length ≤ reachBytes ∧ ∀ x ∈ a7.2.1, CtOk w x) ∧ (Sl 4 encPkV w a8.1 a8.2.1 ∧ a8.2.1.length ≤ reachBytes) := by
 obtain ⟨hl, hf⟩ := h.struct Tryz.underlying31 cellsO31
 have f0 : Opn enc Tryz.prog w base spare held 25 ((cs.drop 0).take (Tryz.prog.cellsOf 25)) := hf 0 _ rfl
 rw [cellsO25] at f0
 obtain ⟨a0, a1, a2, a3, a4, e0⟩ := opn25 f0
 have f1 : Opn enc Tryz.prog w base spare held 26 ((cs.drop 5).take (Tryz.prog.cellsOf 26)) := hf 1 _ rfl
 rw [cellsO26] at f1
 obtain ⟨a5, e1, p5⟩ := opn26 f1
 have f2 : Opn enc Tryz.prog w base spare held 27 ((cs.drop 6).take (Tryz.prog.cellsOf 27)) := hf 2 _ rfl
 rw [cellsO27] at f2
 obtain ⟨a6, e2, p6⟩ := opn27 f2
 have f3 : Opn enc Tryz.prog w base spare held 28 ((cs.drop 7).take (Tryz.prog.cellsOf 28)) := hf 3 _ rfl
 rw [cellsO28] at f3
 obtain ⟨a7, e3, p7⟩ := opn28 f3
 have f4 : Opn enc Tryz.prog w base spare held 29 ((cs.drop 8).take (Tryz.prog.cellsOf 29)) := hf 4 _ rfl
 rw [cellsO29] at f4
 obtain ⟨a8, e4, p8⟩ := opn29 f4
 have f5 : Opn enc Tryz.prog w base spare held 3 ((cs.drop 9).take (Tryz.prog.cellsOf 3)) := hf 5 _ rfl
 rw [cellsO3] at f5
 obtain ⟨a9, e5⟩ := opn3 f5
 have f6 : Opn enc Tryz.prog w base spare held 3 ((cs.drop 10).take (Tryz.prog.cellsOf 3)) := hf 6 _ rfl
 rw [cellsO3] at f6
 obtain ⟨a10, e6⟩ := opn3 f6
 clear hf h f0 f1 f2 f3 f4 f5 f6
 match cs, hl with
 | [c0, c1, c2, c3, c4, c5, c6, c7, c8, c9, c10], _ =>
   simp at e0 e1 e2 e3 e4 e5 e6
   exact ⟨a0, a1, a2, a3, a4, a5, a6, a7, a8, a9, a10, by simp [*], p5, p6, p7, p8⟩
theorem world_opened {cs : List Value} (h : Opn enc Tryz.prog w base spare held 31 cs) : ∃ W : WorldV, cs = encWorldV W ∧ WorldOk w W := by
 obtain ⟨a0, a1, a2, a3, a4, a5, a6, a7, a8, a9, a10, rfl, p5, p6, p7, p8⟩ := opn31 h
 have hr := reach_lt
 exact ⟨⟨a0, a1, a2, a3, a4, a5.1, a5.2.2, a5.2.1, a6.1, a6.2.2, a6.2.1, a7.1, a7.2.2, a7.2.1, a8.1, a8.2.2, a8.2.1, a9, a10⟩, rfl, ⟨p5.1, p5.2.2, Nat.lt_of_le_of_lt p5.2.1 hr, p6.1, Nat.lt_of_le_of_lt p6.2 hr, p7.1, p7.2.2, Nat.lt_of_le_of_lt p7.2.1 hr, p8.1, Nat.lt_of_le_of_lt p8.2 hr⟩⟩
end
end
section
open Go.ChangeShapes Go.WideShapes Go.ChangeAt Go.RowKit Go.Deep
theorem ray_law (hstep : TrueAt 7) (W : WorldV) (fx fy tx ty m : Int) (w : World) (h_W : WorldOk w W) :
   Calls Tryz.prog 4 #[.agg (encWorldV W).toArray, .agg #[.int .i64 fx, .int .i64 fy], .agg #[.int .i64 tx, .int .i64 ty], .int .i64 m] w fun e w' => e = .returned (.bool true) ∧ Grw w w' := by
 by_cases hv : validateE W = 0
 · exact ray_good hstep rayExample_any W fx fy tx ty m w h_W hv
 · exact ray_bad hstep W fx fy tx ty m w h_W hv
theorem Tryz.own : ownKnob Tryz.prog.godebug = none := by kernel_rfl
theorem Tryz.laidOut : laidOutB Tryz.prog = true := by kernel_rfl
theorem opn_of {H : Type} {enc : TypeId × Value → H} {P : Program} {W : World} {ts : List TypeId} {ds : List (DataW H)} (hsz : (DataW.weightsEach P ts ds).all (· ≤ reachBytes) = true) {j : Nat} {t : TypeId} {v : Value} {d : DataW H} {p : List MemPlace}
   (ht : ts[j]? = some t) (hd : ds[j]? = some d) (h : DataW.Trod enc P W 0 (fun _ => true) true t v d p) : Opn enc P W 0 (fun _ => true) true t v.cells.toList := by
 obtain ⟨n, hn⟩ := h
 refine ⟨n, _, hn, fun k hk => ?_⟩
 have := List.all_eq_true.1 hsz _ (DataW.weights_mem_each ht hd k hk)
 simpa using this
theorem agg_of {P : Program} {W : World} {t : TypeId} {v : Value} {fs : Array Field} {base : Nat} {r : Reach} (ht : P.underlying t = some (.struct fs)) (h : Value.okWide P W r base t v) {l : List Value} (hl : v.cells.toList = l) : v = .agg l.toArray := by
 obtain ⟨cs, rfl, _⟩ := okWide_struct ht h
 subst hl
 simp [Value.cells]
theorem ray_lifted (hstep : TrueAt 7) (os : Os) (started : os.Started) (H : Type) (enc : TypeId × Value → H) :
   ReturnsInHanded {} Tryz.checked os 4 .any (Rows.topEveryRaySpec.pre6 enc Tryz.prog Tryz.f4 Rows.topEveryRayRow.domain false) (Rows.topEveryRaySpec.post enc Tryz.prog Tryz.f4 false true false false) := by
 refine returnsInHanded_of_change_sized (C := Tryz.checked) Tryz.own started (by kernel_rfl) Tryz.func4
   (ChangeSpec.witness6 (enc := enc) (C := Tryz.checked) false ⟨#[], #[.agg #[.int .i64 0, .int .i64 0, .int .i64 0, .int .i64 0, .int .i64 0, .slice none 0 0, .slice none 0 0, .slice none 0 0, .slice none 0 0, .int .i64 0, .int .i64 0], .agg #[.int .i64 0, .int .i64 0], .agg #[.int .i64 0, .int .i64 0], .int .i64 0], []⟩ 8 (by kernel_rfl) (by kernel_rfl) (by kernel_rfl) (by kernel_rfl)) ?_
 intro W base args ds gs before hval0 hW _ hsz0 _
 have hsz : (DataW.weightsEach Tryz.prog (Tryz.f4.params.toList ++ Rows.topEveryRaySpec.plain.varTypes Tryz.prog) (ds ++ gs)).all (· ≤ reachBytes) = true := hsz0
 clear hsz0
 have hval : ∀ (j : Nat) t v, Tryz.f4.params[j]? = some t → args[j]? = some v → Value.okWide Tryz.prog W .any base t v := hval0
 have hW' := hW
 obtain ⟨p, q, hA0, hV, rfl, _, _⟩ := hW
 have hA : DataW.TrodAll enc Tryz.prog W 0 (fun _ => true) true Tryz.f4.params.toList args.toList ds p := hA0
 rw [Tryz.params4] at hA hval hsz
 obtain ⟨v0, v1, v2, v3, d0, d1, d2, d3, p0, p1, p2, p3, rfl, rfl, rfl, h0, h1, h2, h3⟩ := trodAll_four hA
 obtain ⟨rfl, rfl⟩ := trodVars_none hV
 clear hA0 hval0 hA
 simp only [List.append_nil] at hW' hsz
 have hlt : ∀ x ∈ p0 ++ p1 ++ p2 ++ p3, x.block < W.heap.size := fun x hx => by simpa using hW'.lt x hx
 obtain ⟨X, hX, hXok⟩ := world_opened (opn_of hsz (j := 0) rfl rfl h0)
 obtain ⟨fx, fy, hF⟩ := opn23 (opn_of hsz (j := 1) rfl rfl h1)
 obtain ⟨tx, ty, hT⟩ := opn23 (opn_of hsz (j := 2) rfl rfl h2)
 obtain ⟨m, rfl⟩ := okWide_int Tryz.underlying3 (hval 3 3 v3 rfl rfl)
 obtain rfl := agg_of Tryz.underlying31 (hval 0 31 v0 rfl rfl) hX
 obtain rfl := agg_of Tryz.underlying23 (hval 1 23 v1 rfl rfl) hF
 obtain rfl := agg_of Tryz.underlying23 (hval 2 23 v2 rfl rfl) hT
 refine (ray_law hstep X fx fy tx ty m W hXok).mono fun e W' ⟨he, hw⟩ => ?_
 have hb := hw.below
 have c0 := Below.trod Tryz.laidOut (by kernel_rfl) (of_decide_eq_true (by kernel_rfl)) h0 hb (fun x hx => hlt x (by simp [hx]))
 have c1 := Below.trod Tryz.laidOut (by kernel_rfl) (of_decide_eq_true (by kernel_rfl)) h1 hb (fun x hx => hlt x (by simp [hx]))
 have c2 := Below.trod Tryz.laidOut (by kernel_rfl) (of_decide_eq_true (by kernel_rfl)) h2 hb (fun x hx => hlt x (by simp [hx]))
 have c3 := Below.trod Tryz.laidOut (by kernel_rfl) (of_decide_eq_true (by kernel_rfl)) h3 hb (fun x hx => hlt x (by simp [hx]))
 refine ⟨.bool true, he, ⟨_, _, _, [], _, [], hW', ?_, trodAll_mk4 c0 c1 c2 c3, rfl, hb.frame _, fun h => by cases h⟩⟩
 exact trodAll_mk1 (shut_bool Tryz.underlying4 true)
end
section
open Go.ChangeShapes Go.WideShapes Go.ChangeAt Go.RowKit
set_option maxRecDepth 1000000 in
set_option maxHeartbeats 0 in
theorem rj2 : joinedFacts Tryz.pinned.checked.prog 4 Tryz.f4 Rows.topEveryRaySpec Rows.topEveryRayRow = true := by
 unfold joinedFacts
 simp only [Bool.and_eq_true]
 repeat' (with_reducible apply And.intro)
 all_goals decide +kernel
theorem rj1 : Tryz.pinned.checked.prog.funcNamed Rows.topEveryRayRow.func = some 4 := by kernel_rfl
theorem rj4 : Tryz.f4.isInstance Tryz.pinned.checked.prog Rows.topEveryRayRow.origin Rows.topEveryRayRow.targs := of_decide_eq_true (by kernel_rfl)
theorem rj3 : Tryz.f4.isWrapper Tryz.pinned.checked.prog Rows.topEveryRayRow.wrapper Rows.topEveryRayRow.mainSum := by unfold Func.isWrapper; rw [if_neg (by decide +kernel)]; exact ⟨rfl, rfl⟩
end
section
open Go.ChangeShapes Go.WideShapes Go.ChangeAt Go.RowKit Go.Deep
theorem ray_holds_of (hstep : TrueAt 7) : Rows.TopEveryRaySaid :=
 OpenClaim.holds_of_wide 4 Tryz.f4 rfl rfl rfl rfl rfl rfl rfl ⟨rfl, rfl, rfl, rfl, rfl⟩ rfl rfl rfl rfl rfl rj1 Tryz.func4 rj2 rj4 rj3
   (fun os started H enc _ => ray_lifted hstep os started H enc)
end
end Go.Proofs.YtokkghhmliplfaaGreat
