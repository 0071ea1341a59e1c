/- For every list of operations the law TopEveryPair answers true and leaves its input as it was. -/
import Derived.Test.YtbnfngelkaembaaRows
import Derived.Test.YtbnfngelkaembaaA30
import Derived.ProofKit
import Derived.Deep.Slices
import Derived.SizedLaws
import Derived.Deep.Strs
namespace Go.Proofs.Ytbnfngelkaembaa
open Go.ChangeShapes Go.WideShapes Go.ChangeAt Go.RowKit Go.Deep

theorem Try.own : ownKnob Try.prog.godebug = none := by kernel_rfl
theorem Try.laidOut : laidOutB Try.prog = true := by kernel_rfl
theorem Try.cells32 : Try.prog.cellsOf 32 = 6 := by kernel_rfl
theorem Try.cells30 : Try.prog.cellsOf 30 = 4 := by kernel_rfl
theorem Try.cells28 : Try.prog.cellsOf 28 = 2 := by kernel_rfl
theorem Try.cells5 : Try.prog.cellsOf 5 = 1 := by kernel_rfl
theorem Try.cells3 : Try.prog.cellsOf 3 = 1 := by kernel_rfl
theorem Try.bytes32 : Try.prog.bytesOf 32 = 48 := by kernel_rfl

section
variable {H : Type} {enc : TypeId × Value → H} {w : World} {base : Nat} {spare : Nat → Bool} {held : Bool}
theorem vec_opened {n : Nat} {cs : List Value} {x : DataW H × List MemPlace} (h : DataW.trod enc Try.prog w base spare held n 28 cs = some x) : ∃ a b : Int, cs = [.int .i64 a, .int .i64 b] := by
  obtain ⟨y0, y1, m, _, hl, h0, h1⟩ := trod_struct2 Try.underlying28 h
  rw [Try.cells28] at hl
  rw [Try.cells3] at h0 h1
  obtain ⟨a, ha, _⟩ := DataW.trod_int Try.underlying3 h0
  obtain ⟨b, hb, _⟩ := DataW.trod_int Try.underlying3 h1
  match cs, hl with
  | [c0, c1], _ =>
    simp at ha hb
    exact ⟨a, b, by rw [ha, hb]⟩
theorem box_opened {n : Nat} {cs : List Value} {x : DataW H × List MemPlace} (h : DataW.trod enc Try.prog w base spare held n 30 cs = some x) :
    ∃ a b c d : Int, cs = [.int .i64 a, .int .i64 b, .int .i64 c, .int .i64 d] := by
  obtain ⟨y0, y1, m, _, hl, h0, h1⟩ := trod_struct2 Try.underlying30 h
  rw [Try.cells30] at hl
  rw [Try.cells28] at h0 h1
  obtain ⟨a, b, hab⟩ := vec_opened h0
  obtain ⟨c, d, hcd⟩ := vec_opened h1
  match cs, hl with
  | [c0, c1, c2, c3], _ =>
    simp at hab hcd
    exact ⟨a, b, c, d, by rw [hab.1, hab.2, hcd.1, hcd.2]⟩
theorem op_opened {n : Nat} {cs : List Value} {x : DataW H × List MemPlace} (h : DataW.trod enc Try.prog w base spare held n 32 cs = some x) :
    ∃ d : Od, cs = [.int .u8 d.op, .int .i64 d.x.id, .int .i64 d.x.a, .int .i64 d.x.b, .int .i64 d.x.c, .int .i64 d.x.d] := by
  obtain ⟨y0, y1, y2, m, _, hl, h0, h1, h2⟩ := trod_struct3 Try.underlying32 h
  rw [Try.cells32] at hl
  rw [Try.cells5] at h0
  rw [Try.cells3] at h1
  rw [Try.cells30] at h2
  obtain ⟨o, ho, _, hw0⟩ := DataW.trod_int Try.underlying5 h0
  obtain ⟨i, hi, _, hw1⟩ := DataW.trod_int Try.underlying3 h1
  obtain ⟨a, b, c, d, hb⟩ := box_opened h2
  have hr : 0 ≤ o ∧ o < 256 := by
    have := hw0
    simp [Lit.wf] at this
    have e1 : IntKind.u8.min = 0 := rfl
    have e2 : IntKind.u8.max = 255 := rfl
    omega
  match cs, hl with
  | [c0, c1, c2, c3, c4, c5], _ =>
    simp at ho hi hb
    exact ⟨⟨o, ⟨i, a, b, c, d⟩, hr, hw1⟩, by rw [ho, hi, hb.1, hb.2.1, hb.2.2.1, hb.2.2.2]⟩
end


theorem list_of {α : Type} (P : Nat → α → Prop) : ∀ n, (∀ i, i < n → ∃ d, P i d) → ∃ l : List α, l.length = n ∧ ∀ i d, l[i]? = some d → P i d
  | 0, _ => ⟨[], rfl, fun i d h => by simp at h⟩
  | n + 1, h => by
    obtain ⟨l, hl, hp⟩ := list_of P n fun i hi => h i (by omega)
    obtain ⟨d, hd⟩ := h n (by omega)
    refine ⟨l ++ [d], by simp [hl], fun i x hx => ?_⟩
    by_cases hi : i < n
    · rw [List.getElem?_append_left (by omega)] at hx
      exact hp i x hx
    · have hlt := (List.getElem?_eq_some_iff.1 hx).1
      simp [hl] at hlt
      obtain rfl : i = n := by omega
      rw [List.getElem?_append_right (by omega)] at hx
      simp [hl] at hx
      subst hx
      exact hd

theorem cell_lt {w : World} {a : Addr} {v : Value} (h : w.cell? a = some v) : a.block < w.heap.size := by
  rcases Nat.lt_or_ge a.block w.heap.size with h1 | h1
  · exact h1
  · unfold World.cell? at h; rw [Array.getElem?_eq_none h1] at h; simp at h
theorem OnlyChg.below {w w' : World} (h : OnlyChg (fun _ => False) w w') : Below w.heap.size w w' := ⟨h.os, h.tape, h.output, h.size, fun k hk => h.block k hk (by simp)⟩

set_option maxRecDepth 100000 in
theorem pair_lifted (os : Os) (started : os.Started) (H : Type) (enc : TypeId × Value → H) :
    ReturnsInHanded {} Try.checked os 3 .any (Rows.topEveryPairSpec.pre6 enc Try.prog Try.f3 Rows.topEveryPairRow.domain false) (Rows.topEveryPairSpec.post enc Try.prog Try.f3 false true false false) := by
  refine returnsInHanded_of_change_sized (C := Try.checked) Try.own started (by kernel_rfl) Try.func3
    (ChangeSpec.witness6 (enc := enc) (C := Try.checked) false ⟨#[], #[.slice none 0 0], []⟩ 8 (by kernel_rfl) (by kernel_rfl) (by kernel_rfl) (by kernel_rfl)) ?_
  intro W base args ds gs before hval0 hW _ hsz0 _
  have hsz : (DataW.weightsEach Try.prog (Try.f3.params.toList ++ Rows.topEveryPairSpec.plain.varTypes Try.prog) (ds ++ gs)).all (· ≤ reachBytes) = true := hsz0
  clear hsz0
  have hval : ∀ (j : Nat) t v, Try.f3.params[j]? = some t → args[j]? = some v → Value.okWide Try.prog W .any base t v := hval0
  have hW' := hW
  obtain ⟨p, q, hA0, hV, rfl, _, _⟩ := hW
  have hA : DataW.TrodAll enc Try.prog W 0 (fun _ => true) true Try.f3.params.toList args.toList ds p := hA0
  rw [Try.params3] at hA hval hsz
  obtain ⟨v0, d0, rfl, rfl, h0⟩ := trodAll_one hA
  obtain ⟨rfl, rfl⟩ := trodVars_none hV
  have h0k := h0
  obtain ⟨fuel, hf⟩ := h0
  clear hA0 hval0
  simp only [List.append_nil] at hW'
  have hlt : ∀ x ∈ p, x.block < W.heap.size := fun x hx => by simpa using hW'.lt x hx
  obtain ⟨a0, len, cap, rfl⟩ := okWide_slice Try.underlying22 (hval 0 22 v0 rfl rfl)
  have hgo : ∃ ods : List Od, ods.length = len ∧ OpsAt W a0 ods ∧ (ods.length : Int) < 4611686018427387904 := by
    rcases open_slice Try.underlying22 hf with ⟨hcs, hx⟩ | ⟨a, len', cap', m, n, D, Pl, hcs, _, hl, hm, hmm, hx, hel⟩
    · simp [Value.cells] at hcs
      obtain ⟨rfl, rfl, rfl⟩ := hcs
      exact ⟨[], rfl, fun k d hk => by simp at hk, by decide⟩
    · simp [Value.cells] at hcs
      obtain ⟨rfl, rfl, rfl⟩ := hcs
      simp only [Prod.mk.injEq] at hx
      obtain ⟨rfl, rfl⟩ := hx
      simp only [if_true] at hmm
      have hreach := sized_slice hsz (j := 0) (t := 22) (e := 32) rfl rfl Try.underlying22
      rw [Try.bytes32] at hreach
      unfold reachBytes at hreach
      simp at hreach
      obtain ⟨ods, hol, hoc⟩ := list_of (fun i (d : Od) => ∀ j u, [Value.int .u8 d.op, .int .i64 d.x.id, .int .i64 d.x.a, .int .i64 d.x.b, .int .i64 d.x.c, .int .i64 d.x.d][j]? = some u → W.cell? (a.add (i * 6 + j)) = some u) len fun i hi => by
        obtain ⟨cs', hc, ht⟩ := hel i (by omega)
        rw [Try.cells32] at hc
        obtain ⟨_, hcl, hat⟩ := World.cells?_some hc
        obtain ⟨d, rfl⟩ := op_opened ht
        refine ⟨d, fun j u hj => ?_⟩
        have hj6 : j < 6 := (List.getElem?_eq_some_iff.1 hj).1
        rw [← Go.Deep.add_add, hat j hj6, hj]
      refine ⟨ods, hol, fun k d hk => ?_, by omega⟩
      have hc := hoc k d hk
      obtain ⟨b, off, spot⟩ := a
      have hk0 : 0 < ods.length := Nat.lt_of_le_of_lt (Nat.zero_le k) (List.getElem?_eq_some_iff.1 hk).1
      have c0 := hoc 0 _ (List.getElem?_eq_getElem hk0) 0 _ rfl
      have hspot : spot = Option.none := by simpa [Addr.add] using World.cell?_spot c0
      subst hspot
      have hadd : ∀ n, (⟨b, off, Option.none⟩ : Addr).add n = ⟨b, off + n, Option.none⟩ := fun n => by
        unfold Addr.add
        split
        · simp [*]
        · rfl
      simp only [hadd] at hc
      refine ⟨b, off, rfl, cell_lt (hc 0 _ rfl), ?_, ?_, ?_, ?_, ?_, ?_⟩
      · simpa [Nat.add_assoc] using hc 0 _ rfl
      · simpa [Nat.add_assoc] using hc 1 _ rfl
      · simpa [Nat.add_assoc] using hc 2 _ rfl
      · simpa [Nat.add_assoc] using hc 3 _ rfl
      · simpa [Nat.add_assoc] using hc 4 _ rfl
      · simpa [Nat.add_assoc] using hc 5 _ rfl
  obtain ⟨ods, rfl, hops, hlen⟩ := hgo
  refine (top_any W a0 cap ods hops hlen).mono fun e W' ⟨he, hw⟩ => ?_
  have hb := hw.below
  refine ⟨.bool true, he, ⟨_, _, _, [], _, [], hW', ?_, trodAll_mk1 (Below.trod Try.laidOut (by kernel_rfl) (of_decide_eq_true (by kernel_rfl)) h0k hb hlt), rfl, hb.frame _, fun h => by cases h⟩⟩
  exact trodAll_mk1 (shut_bool Try.underlying4 true)

theorem pair_holds : Rows.TopEveryPairSaid :=
  OpenClaim.holds_of_wide 3 Try.f3 rfl rfl rfl rfl rfl rfl rfl ⟨rfl, rfl, rfl, rfl, rfl⟩ rfl rfl rfl rfl rfl (by kernel_rfl) Try.func3 (by kernel_rfl)
    (of_decide_eq_true (by kernel_rfl)) (by unfold Func.isWrapper; rw [if_neg (by decide +kernel)]; exact ⟨rfl, rfl⟩)
    (fun os started H enc _ => pair_lifted os started H enc)
#print axioms pair_holds
end Go.Proofs.Ytbnfngelkaembaa
