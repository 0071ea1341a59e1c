/- neighbors of package sap: an iterator over two variables: its contract. -/
import Derived.Test.YtbnfngelkaembaaA22
import Derived.RangeFuncNested
import Derived.RangeFuncBound
import Derived.RangeFuncCalls
import Derived.RangeFuncLeaves
import Derived.Shelf.Abstract
import Derived.Shelf.RegionOpen
import Derived.WalkKit
import Derived.OwnWalkIn
import Derived.TacticsInMore
import Derived.LoopNIn
import Derived.LoopIn
namespace Go.Proofs.Ytbnfngelkaembaa
open Go.RowKit Go.Sort Go.Shelf
attribute [local go_sem] Oper.semAt_some

/-- what a round keeps: entries, and boxes of slices of entries -/
def KeepE (W W' : World) : Prop := ∀ (k : Nat) (cs : Array Value) (t : TypeId) (fr : Nat × Nat), (t = 39 ∨ t = 25) → W.heap[k]? = some (.cells cs t fr) → W'.heap[k]? = some (.cells cs t fr)
theorem KeepE.refl (W : World) : KeepE W W := fun _ _ _ _ _ h => h
theorem KeepE.trans {A B C : World} (h : KeepE A B) (k : KeepE B C) : KeepE A C := fun i cs t fr ht hi => k i cs t fr ht (h i cs t fr ht hi)
theorem KeepE.putObj (W : World) (l : Nat) (o o' : Obj) (h : W.heap[l]? = some o) (ho : o.isCells = false) : KeepE W (W.putObj l o') := fun k cs t fr _ hk => by
  have hne : k ≠ l := fun e => by subst e; rw [h] at hk; cases hk; simp [Obj.isCells] at ho
  rw [World.putObj_heap_other hne]; exact hk
theorem KeepE.alloc (W : World) (o : Obj) : KeepE W (W.alloc o) := fun k cs t fr _ hk => (OnlyChg.of_grw ((Grw.refl W).alloc o)).block k (Array.getElem?_eq_some_iff.1 hk).1 (by simp) |>.trans hk
theorem OwnL.keepE {w w' : World} {base : Nat} {v : Value} {xs : List En} (h : OwnE w base v xs) (hk : KeepE w w') : OwnE w' base v xs := by
  obtain ⟨h1, h2 | ⟨g, cap, cur, h3, h4, h5, h6⟩⟩ := h
  · exact ⟨h1, .inl h2⟩
  · exact ⟨h1, .inr ⟨g, cap, cur, h3, h4, hk g cur 39 _ (.inl rfl) h5, h6⟩⟩

theorem abides_alloc {β : Type} {B : Nat} {J : β → World → Prop} (h : AbidesFrom B J) {s : β} {W : World} (hs : J s W) (o : Obj) : J s (W.alloc o) :=
  h s W _ none hs (((OnlyChg.of_grw ((Grw.refl W).alloc o))).grownBy (by simp)) (by simp)

def nbr : List En → List (En × En)
  | [] => []
  | x :: r => (r.takeWhile (fun y => decide (y.a ≤ x.c))).map (fun y => (x, y)) ++ nbr r
def encEE (p : En × En) : Array Value := #[.agg #[.int .i64 p.1.id, .int .i64 p.1.a, .int .i64 p.1.b, .int .i64 p.1.c, .int .i64 p.1.d], .agg #[.int .i64 p.2.id, .int .i64 p.2.a, .int .i64 p.2.b, .int .i64 p.2.c, .int .i64 p.2.d]]

set_option maxRecDepth 100000 in
set_option maxHeartbeats 4000000 in
theorem nbr_in (F : Fence) (n : Nat) (h29 : F.fn 29) (hro : F.round = none) (hn : 1 ≤ n) (l Bn B : Nat) (pa : Option Addr) (cap : Nat) (ys : List En) (J Jx : List (En × En) → World → Prop)
    (hY : ∀ pre x W, J pre W → pre.length < (nbr ys).length → YieldAt F (n - 1) Try.prog l (encEE x) W fun e W' =>
      (e = .returned (.bool true) ∧ J (pre ++ [x]) W' ∧ KeepE W W') ∨ (e = .returned (.bool false) ∧ Jx (pre ++ [x]) W'))
    (W : World) (hJ : AbidesFrom B J) (base : Nat) (hBn : W.heap[Bn]? = some (.cells #[.slice pa ys.length cap] 25 (0, 0))) (hO : OwnE W base (.slice pa ys.length cap) ys) (hl : ys.length ≤ 100000) (h0 : J [] W) :
    CallsIn F n Try.prog 29 #[.func (.yield l) #[] #[], .pointer (some ⟨Bn, 0, none⟩)] W fun e W' => (∃ v, e = .returned v) ∧
      ((∃ zs, zs = nbr ys ∧ J zs W') ∨ (∃ pre : List (En × En), True ∧ Jx pre W')) := by
  have hb0 := cell_of_block hBn 0
  simp only [Array.getElem?_eq_getElem, List.size_toArray, List.length_cons, List.length_nil, Nat.reduceAdd, Nat.reduceLT, List.getElem_toArray, List.getElem_cons_zero] at hb0
  refine callsIn_of_wp Try.func29 rfl h29 ?_ hro
  simp only [Try.ntmps29, List.size_toArray, List.length_cons, List.length_nil, Nat.reduceAdd, Nat.reduceSub, Array.replicate_succ, Array.replicate_zero, List.push_toArray, List.append_toArray, List.nil_append, List.cons_append]
  gi_wp2
  gi_loopw [9] (fun p wr => ∃ (k : Nat) (pre : List (En × En)), p = .int .i64 k ∧ k ≤ ys.length ∧ nbr ys = pre ++ nbr (ys.drop k) ∧ KeepE W wr ∧ J pre wr)
    (fun p wr => ys.length - (intOf p).toNat)
  case atStart =>
    exact ⟨0, [], rfl, Nat.zero_le _, rfl, KeepE.refl _, h0⟩
  case round =>
    obtain ⟨k, pre, rfl, hk, hx, hK, hJs⟩ := hrel
    rename World => w1
    rcases Nat.lt_or_ge k ys.length with hlt | hge
    · obtain ⟨x, hxk⟩ : ∃ x, ys[k]? = some x := ⟨ys[k], List.getElem?_eq_getElem hlt⟩
      have hO1 := hO.keepE hK
      obtain ⟨gb, rfl, hgb, c0, c1, c2, c3, c4⟩ := OwnE.read hO1 hxk
      have hcap : ys.length ≤ cap := by
        rcases hO.form with ⟨e, _⟩ | ⟨g, cap', e, _, _, h3, _⟩
        · cases e
        · cases e; exact h3
      have him : (k : Int) < (ys.length : Int) := by omega
      have hB1 := hK Bn _ 25 _ (.inr rfl) hBn
      have hBlt := (Array.getElem?_eq_some_iff.1 hB1).1
      have b0 := cell_of_block hB1 0
      simp only [Array.getElem?_eq_getElem, List.size_toArray, List.length_cons, List.length_nil, Nat.reduceAdd, Nat.reduceLT, List.getElem_toArray, List.getElem_cons_zero] at b0
      have i1 : (0 : Int) ≤ (k : Int) + 1 := by omega
      have i2 : (k : Int) + 1 ≤ (ys.length : Int) := by omega
      have i3 : (ys.length : Int) ≤ (cap : Int) := by omega
      have i4 : (k : Int) + 1 ≤ (cap : Int) := by omega
      have i5 : ((k : Int) + 1).toNat = k + 1 := by omega
      have HN := Lib.hid hx
      clear hb0 hx
      have hdr : ys.drop k = x :: ys.drop (k + 1) := by
        rw [List.drop_eq_getElem_cons hlt]
        congr 1
        exact Option.some.inj ((List.getElem?_eq_getElem hlt).symm.trans hxk)
      obtain ⟨rest, hrest⟩ : ∃ rest, rest = ys.drop (k + 1) := ⟨_, rfl⟩
      have hrl : rest.length = ys.length - (k + 1) := by rw [hrest, List.length_drop]
      have hnb : nbr ys = pre ++ ((rest.takeWhile (fun y => decide (y.a ≤ x.c))).map (fun y => (x, y)) ++ nbr rest) := by
        rw [HN.out, hdr, ← hrest]; rfl
      have HNB := Lib.hid hnb
      have HRE := Lib.hid hrest
      clear HN hnb hdr hrest
      by_cases hce : cap = k + 1
      · subst hce
        gi_wp2
        gi_loopw [19] (fun p w2 => p = .int .i64 0 ∧ w2 = w1.alloc (.cells #[.int .i64 x.id, .int .i64 x.a, .int .i64 x.b, .int .i64 x.c, .int .i64 x.d] 39)) (fun p w2 => 0)
        case atStart => exact ⟨rfl, rfl⟩
        case round =>
          obtain ⟨rfl, rfl⟩ := hrel
          have hKK := hK.trans (KeepE.alloc w1 (.cells #[.int .i64 x.id, .int .i64 x.a, .int .i64 x.b, .int .i64 x.c, .int .i64 x.d] 39))
          have hJ2 := abides_alloc hJ hJs (.cells #[.int .i64 x.id, .int .i64 x.a, .int .i64 x.b, .int .i64 x.c, .int .i64 x.d] 39)
          have hr0 : rest = [] := List.length_eq_zero_iff.1 (by omega)
          have HX3 := Lib.hid (show nbr ys = pre ++ nbr rest by rw [HNB.out, hr0]; simp)
          have hz : ys.length - (k + 1) = 0 := by omega
          have hzz : ¬ 0 < ys.length - (k + 1) := by omega
          gi_wp2
          go_roundw
          case rel => exact ⟨k + 1, pre, by go_num, by omega, by rw [← HRE.out]; exact HX3.out, hKK, hJ2⟩
          case measure => simp [intOf] <;> omega
      · gi_wp2
        gi_loopw [19] (fun p w2 => ∃ (j : Nat) (pre' : List (En × En)), p = .int .i64 j ∧ j ≤ rest.length ∧ nbr ys = pre' ++ (((rest.drop j).takeWhile (fun y => decide (y.a ≤ x.c))).map (fun y => (x, y)) ++ nbr rest) ∧ KeepE (w1.alloc (.cells #[.int .i64 x.id, .int .i64 x.a, .int .i64 x.b, .int .i64 x.c, .int .i64 x.d] 39)) w2 ∧ J pre' w2)
          (fun p w2 => rest.length - (intOf p).toNat)
        case atStart =>
          exact ⟨0, pre, rfl, Nat.zero_le _, HNB.out, KeepE.refl _, abides_alloc hJ hJs _⟩
        case round =>
          obtain ⟨j, pre', rfl, hj, hx2, hK2, hJ2⟩ := hrel
          rename World => w2
          have HX2 := Lib.hid hx2
          clear hx2
          rcases Nat.lt_or_ge j rest.length with hlt2 | hge2
          · by_cases hce : cap = k + 1
            · exfalso; omega
            obtain ⟨y, hyj⟩ : ∃ y, rest[j]? = some y := ⟨rest[j], List.getElem?_eq_getElem hlt2⟩
            have hyk : ys[k + 1 + j]? = some y := by rw [← hyj, HRE.out, List.getElem?_drop]
            have hdj : rest.drop j = y :: rest.drop (j + 1) := by
              rw [List.drop_eq_getElem_cons hlt2]
              congr 1
              exact Option.some.inj ((List.getElem?_eq_getElem hlt2).symm.trans hyj)
            have hKK : KeepE W w2 := (hK.trans (KeepE.alloc _ _)).trans hK2
            obtain ⟨gb', hgb', hgb2, d0, d1, d2, d3, d4⟩ := OwnE.read (hO.keepE hKK) hyk
            cases hgb'
            have hbx := hK2 _ _ 39 _ (.inl rfl) (heap_alloc_new w1 (.cells #[.int .i64 x.id, .int .i64 x.a, .int .i64 x.b, .int .i64 x.c, .int .i64 x.d] 39))
            have hbl := (Array.getElem?_eq_some_iff.1 hbx).1
            have e0 := cell_of_block hbx 0
            have e1 := cell_of_block hbx 1
            have e2 := cell_of_block hbx 2
            have e3 := cell_of_block hbx 3
            have e4 := cell_of_block hbx 4
            simp only [Array.getElem?_eq_getElem, List.size_toArray, List.length_cons, List.length_nil, Nat.reduceAdd, Nat.reduceLT, List.getElem_toArray, List.getElem_cons_zero, List.getElem_cons_succ] at e0 e1 e2 e3 e4
            have eo : (k + 1 + j) * 5 = (k + 1) * 5 + j * 5 := by omega
            rw [eo] at d0 d1 d2 d3 d4
            have jm : (j : Int) < ((ys.length - (k + 1) : Nat) : Int) := by omega
            have jn : j < ys.length - (k + 1) := by omega
            have jl : j ≤ 100000 := by omega
            clear hyk hyj c0 c1 c2 c3 c4 b0 eo hbx
            by_cases hya : y.a ≤ x.c
            · have hlen : pre'.length < (nbr ys).length := by
                rw [HX2.out, hdj]
                simp [hya] <;> omega
              have HX3 := Lib.hid (show nbr ys = (pre' ++ [(x, y)]) ++ (((rest.drop (j + 1)).takeWhile (fun y => decide (y.a ≤ x.c))).map (fun y => (x, y)) ++ nbr rest) by
                rw [HX2.out, hdj]
                simp [hya])
              obtain ⟨fn, tmps, assign, body, hy, hR⟩ := hY pre' (x, y) (w2.alloc (.cells #[.int .i64 y.id, .int .i64 y.a, .int .i64 y.b, .int .i64 y.c, .int .i64 y.d] 39)) (abides_alloc hJ hJ2 _) hlen
              dsimp only [encEE] at hy
              have hya' : ¬ x.c < y.a := by omega
              clear HX2 hdj hya
              gi_wp2
              refine hR.mono ?_
              rintro e w3 (⟨rfl, hJ3, hk3⟩ | ⟨rfl, hJx3⟩)
              · gi_wp2
                go_roundw
                case rel => exact ⟨j + 1, pre' ++ [(x, y)], by go_num, by omega, HX3.out, (hK2.trans (KeepE.alloc _ _)).trans hk3, hJ3⟩
                case measure => simp [intOf] <;> omega
              · gi_wp2
                refine bodyPost_ret (results_none rfl _ _ _) rfl ?_
                exact ⟨⟨_, rfl⟩, .inr ⟨pre' ++ [(x, y)], trivial, hJx3⟩⟩
            · have hya' : x.c < y.a := by omega
              have HX3 := Lib.hid (show nbr ys = pre' ++ nbr rest by
                rw [HX2.out, hdj]
                simp [hya])
              clear HX2 hdj hya
              gi_wp2
              go_roundw
              case rel => exact ⟨k + 1, pre', by go_num, by omega, by rw [← HRE.out]; exact HX3.out, hKK.trans (KeepE.alloc _ _), abides_alloc hJ hJ2 _⟩
              case measure => simp [intOf] <;> omega
          · obtain rfl : j = rest.length := by omega
            have hKK : KeepE W w2 := (hK.trans (KeepE.alloc _ _)).trans hK2
            have HX3 := Lib.hid (show nbr ys = pre' ++ nbr rest by
              rw [HX2.out]
              simp)
            clear HX2
            gi_wp2
            go_roundw
            case rel => exact ⟨k + 1, pre', by go_num, by omega, by rw [← HRE.out]; exact HX3.out, hKK, hJ2⟩
            case measure => simp [intOf] <;> omega
    · obtain rfl : k = ys.length := by omega
      gi_wp2
      go_end0
      exact ⟨⟨_, rfl⟩, .inl ⟨pre, by rw [hx, List.drop_length]; simp [nbr], hJs⟩⟩

end Go.Proofs.Ytbnfngelkaembaa
