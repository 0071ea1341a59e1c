/- The row TopEveryRay of the program holds; part 16 of the proof. No condition. -/
import Derived.Lib.SliceRun
import Derived.RangeFuncNested
import Derived.RangeFuncBound
import Derived.RangeFuncCalls
import Derived.RangeFuncLeaves
import Derived.Shelf.Abstract
import Derived.Shelf.RegionOpen
import Derived.OwnWalkIn
import Derived.TacticsInMore
import Derived.LoopNIn
import Derived.LoopIn
import Derived.Maps.OwnSet
import Derived.Test.YtokkghhmliplfaaGreatK14
import Derived.Test.YtokkghhmliplfaaGreatK11
set_option maxRecDepth 100000
set_option maxHeartbeats 12800000
set_option linter.all false
namespace Go.Proofs
open Go.Shelf
def Tryz.sortPk_ren : Go.Shelf.Ren := ⟨fun | 6 => 231 | 15 => 62 | 14 => 289 | 28 => 133 | 29 => 134 | 20 => 336 | 21 => 337 | 22 => 338 | 23 => 339 | 24 => 340 | 25 => 341 | 26 => 342 | 27 => 343 | 46 => 374 | 47 => 212 | 48 => 213 | 49 => 375 | 50 => 376 | 57 => 399 | n => n, fun | 22 => 29 | 24 => 94 | 25 => 225 | 3 => 3 | 39 => 125 | 0 => 0 | 53 => 194 | 55 => 196 | 4 => 4 | 46 => 188 | 45 => 187 | 50 => 165 | 5 => 5 | 9 => 9 | 66 => 281 | 70 => 285 | 76 => 337 | 77 => 221 | n => n, fun | n => n⟩
theorem Tryz.sortPk : Go.Proofs.SlLaysF0.n6 Tryz.prog Tryz.sortPk_ren := {
 mixed := by kernel_rfl
 f6 := ⟨Tryz.f231.name, by decide, Tryz.func231.trans (congrArg some (by kernel_rfl))⟩
 f14 := ⟨Tryz.f289.name, by decide, Tryz.func289.trans (congrArg some (by kernel_rfl))⟩
 f15 := Tryz.func62.trans (congrArg some (by kernel_rfl))
 f20 := ⟨Tryz.f336.name, by decide, Tryz.func336.trans (congrArg some (by kernel_rfl))⟩
 f21 := ⟨Tryz.f337.name, by decide, Tryz.func337.trans (congrArg some (by kernel_rfl))⟩
 f22 := ⟨Tryz.f338.name, by decide, Tryz.func338.trans (congrArg some (by kernel_rfl))⟩
 f23 := ⟨Tryz.f339.name, by decide, Tryz.func339.trans (congrArg some (by kernel_rfl))⟩
 f24 := ⟨Tryz.f340.name, by decide, Tryz.func340.trans (congrArg some (by kernel_rfl))⟩
 f25 := ⟨Tryz.f341.name, by decide, Tryz.func341.trans (congrArg some (by kernel_rfl))⟩
 f26 := ⟨Tryz.f342.name, by decide, Tryz.func342.trans (congrArg some (by kernel_rfl))⟩
 f27 := ⟨Tryz.f343.name, by decide, Tryz.func343.trans (congrArg some (by kernel_rfl))⟩
 f28 := Tryz.func133.trans (congrArg some (by kernel_rfl))
 f29 := Tryz.func134.trans (congrArg some (by kernel_rfl))
 f46 := ⟨Tryz.f374.name, by decide, Tryz.func374.trans (congrArg some (by kernel_rfl))⟩
 f47 := Tryz.func212.trans (congrArg some (by kernel_rfl))
 f48 := Tryz.func213.trans (congrArg some (by kernel_rfl))
 f49 := ⟨Tryz.f375.name, by decide, Tryz.func375.trans (congrArg some (by kernel_rfl))⟩
 f50 := ⟨Tryz.f376.name, by decide, Tryz.func376.trans (congrArg some (by kernel_rfl))⟩
 f57 := ⟨Tryz.f399.name, by decide, Tryz.func399.trans (congrArg some (by kernel_rfl))⟩
 t0 := Tryz.underlying0
 a0 := Tryz.isAgg0
 z0 := Tryz.sizeOf0
 v0 := Tryz.zeroValue0
 t3 := Tryz.underlying3
 a3 := Tryz.isAgg3
 z3 := Tryz.sizeOf3
 v3 := Tryz.zeroValue3
 t4 := Tryz.underlying4
 a4 := Tryz.isAgg4
 z4 := Tryz.sizeOf4
 v4 := Tryz.zeroValue4
 t5 := Tryz.underlying5
 a5 := Tryz.isAgg5
 z5 := Tryz.sizeOf5
 v5 := Tryz.zeroValue5
 t9 := Tryz.underlying9
 a9 := Tryz.isAgg9
 z9 := Tryz.sizeOf9
 v9 := Tryz.zeroValue9
 t22 := Tryz.underlying29
 a22 := Tryz.isAgg29
 z22 := Tryz.sizeOf29
 v22 := Tryz.zeroValue29
 t25 := Tryz.underlying225
 a25 := Tryz.isAgg225
 z25 := Tryz.sizeOf225
 v25 := Tryz.zeroValue225
 t39 := Tryz.underlying125
 a39 := Tryz.isAgg125
 z39 := Tryz.sizeOf125
 v39 := Tryz.zeroValue125
 t45 := Tryz.underlying187
 a45 := Tryz.isAgg187
 z45 := Tryz.sizeOf187
 v45 := Tryz.zeroValue187
 t46 := Tryz.underlying188
 a46 := Tryz.isAgg188
 z46 := Tryz.sizeOf188
 v46 := Tryz.zeroValue188
 t50 := Tryz.underlying165
 a50 := Tryz.isAgg165
 z50 := Tryz.sizeOf165
 v50 := Tryz.zeroValue165
 t53 := Tryz.underlying194
 a53 := Tryz.isAgg194
 z53 := Tryz.sizeOf194
 v53 := Tryz.zeroValue194
 t55 := Tryz.underlying196
 a55 := Tryz.isAgg196
 z55 := Tryz.sizeOf196
 v55 := Tryz.zeroValue196
 t66 := Tryz.underlying281
 a66 := Tryz.isAgg281
 z66 := Tryz.sizeOf281
 v66 := Tryz.zeroValue281
 t70 := Tryz.underlying285
 a70 := Tryz.isAgg285
 z70 := Tryz.sizeOf285
 v70 := Tryz.zeroValue285
 t76 := Tryz.underlying337
 a76 := Tryz.isAgg337
 z76 := Tryz.sizeOf337
 v76 := Tryz.zeroValue337
 t77 := Tryz.underlying221
 a77 := Tryz.isAgg221
 z77 := Tryz.sizeOf221
 v77 := Tryz.zeroValue221 }
def Tryz.sortPr_ren : Go.Shelf.Ren := ⟨fun | 6 => 285 | 15 => 62 | 14 => 333 | 28 => 133 | 29 => 134 | 20 => 366 | 21 => 367 | 22 => 368 | 23 => 369 | 24 => 370 | 25 => 371 | 26 => 372 | 27 => 373 | 46 => 396 | 47 => 212 | 48 => 213 | 49 => 397 | 50 => 398 | 57 => 407 | n => n, fun | 22 => 297 | 24 => 299 | 25 => 352 | 3 => 3 | 39 => 125 | 0 => 0 | 53 => 194 | 55 => 196 | 4 => 4 | 46 => 188 | 45 => 187 | 50 => 165 | 5 => 5 | 9 => 9 | 66 => 281 | 70 => 285 | 76 => 337 | 77 => 221 | n => n, fun | n => n⟩
theorem Tryz.sortPr : Go.Proofs.SlLaysF0.n6 Tryz.prog Tryz.sortPr_ren := {
 mixed := by kernel_rfl
 f6 := ⟨Tryz.f285.name, by decide, Tryz.func285.trans (congrArg some (by kernel_rfl))⟩
 f14 := ⟨Tryz.f333.name, by decide, Tryz.func333.trans (congrArg some (by kernel_rfl))⟩
 f15 := Tryz.func62.trans (congrArg some (by kernel_rfl))
 f20 := ⟨Tryz.f366.name, by decide, Tryz.func366.trans (congrArg some (by kernel_rfl))⟩
 f21 := ⟨Tryz.f367.name, by decide, Tryz.func367.trans (congrArg some (by kernel_rfl))⟩
 f22 := ⟨Tryz.f368.name, by decide, Tryz.func368.trans (congrArg some (by kernel_rfl))⟩
 f23 := ⟨Tryz.f369.name, by decide, Tryz.func369.trans (congrArg some (by kernel_rfl))⟩
 f24 := ⟨Tryz.f370.name, by decide, Tryz.func370.trans (congrArg some (by kernel_rfl))⟩
 f25 := ⟨Tryz.f371.name, by decide, Tryz.func371.trans (congrArg some (by kernel_rfl))⟩
 f26 := ⟨Tryz.f372.name, by decide, Tryz.func372.trans (congrArg some (by kernel_rfl))⟩
 f27 := ⟨Tryz.f373.name, by decide, Tryz.func373.trans (congrArg some (by kernel_rfl))⟩
 f28 := Tryz.func133.trans (congrArg some (by kernel_rfl))
 f29 := Tryz.func134.trans (congrArg some (by kernel_rfl))
 f46 := ⟨Tryz.f396.name, by decide, Tryz.func396.trans (congrArg some (by kernel_rfl))⟩
 f47 := Tryz.func212.trans (congrArg some (by kernel_rfl))
 f48 := Tryz.func213.trans (congrArg some (by kernel_rfl))
 f49 := ⟨Tryz.f397.name, by decide, Tryz.func397.trans (congrArg some (by kernel_rfl))⟩
 f50 := ⟨Tryz.f398.name, by decide, Tryz.func398.trans (congrArg some (by kernel_rfl))⟩
 f57 := ⟨Tryz.f407.name, by decide, Tryz.func407.trans (congrArg some (by kernel_rfl))⟩
 t0 := Tryz.underlying0
 a0 := Tryz.isAgg0
 z0 := Tryz.sizeOf0
 v0 := Tryz.zeroValue0
 t3 := Tryz.underlying3
 a3 := Tryz.isAgg3
 z3 := Tryz.sizeOf3
 v3 := Tryz.zeroValue3
 t4 := Tryz.underlying4
 a4 := Tryz.isAgg4
 z4 := Tryz.sizeOf4
 v4 := Tryz.zeroValue4
 t5 := Tryz.underlying5
 a5 := Tryz.isAgg5
 z5 := Tryz.sizeOf5
 v5 := Tryz.zeroValue5
 t9 := Tryz.underlying9
 a9 := Tryz.isAgg9
 z9 := Tryz.sizeOf9
 v9 := Tryz.zeroValue9
 t22 := Tryz.underlying297
 a22 := Tryz.isAgg297
 z22 := Tryz.sizeOf297
 v22 := Tryz.zeroValue297
 t25 := Tryz.underlying352
 a25 := Tryz.isAgg352
 z25 := Tryz.sizeOf352
 v25 := Tryz.zeroValue352
 t39 := Tryz.underlying125
 a39 := Tryz.isAgg125
 z39 := Tryz.sizeOf125
 v39 := Tryz.zeroValue125
 t45 := Tryz.underlying187
 a45 := Tryz.isAgg187
 z45 := Tryz.sizeOf187
 v45 := Tryz.zeroValue187
 t46 := Tryz.underlying188
 a46 := Tryz.isAgg188
 z46 := Tryz.sizeOf188
 v46 := Tryz.zeroValue188
 t50 := Tryz.underlying165
 a50 := Tryz.isAgg165
 z50 := Tryz.sizeOf165
 v50 := Tryz.zeroValue165
 t53 := Tryz.underlying194
 a53 := Tryz.isAgg194
 z53 := Tryz.sizeOf194
 v53 := Tryz.zeroValue194
 t55 := Tryz.underlying196
 a55 := Tryz.isAgg196
 z55 := Tryz.sizeOf196
 v55 := Tryz.zeroValue196
 t66 := Tryz.underlying281
 a66 := Tryz.isAgg281
 z66 := Tryz.sizeOf281
 v66 := Tryz.zeroValue281
 t70 := Tryz.underlying285
 a70 := Tryz.isAgg285
 z70 := Tryz.sizeOf285
 v70 := Tryz.zeroValue285
 t76 := Tryz.underlying337
 a76 := Tryz.isAgg337
 z76 := Tryz.sizeOf337
 v76 := Tryz.zeroValue337
 t77 := Tryz.underlying221
 a77 := Tryz.isAgg221
 z77 := Tryz.sizeOf221
 v77 := Tryz.zeroValue221 }
def Tryz.sortEn_ren : Go.Shelf.Ren := ⟨fun | 6 => 331 | 15 => 62 | 14 => 365 | 28 => 133 | 29 => 134 | 20 => 388 | 21 => 389 | 22 => 390 | 23 => 391 | 24 => 392 | 25 => 393 | 26 => 394 | 27 => 395 | 46 => 404 | 47 => 212 | 48 => 213 | 49 => 405 | 50 => 406 | 57 => 408 | n => n, fun | 22 => 293 | 24 => 346 | 25 => 390 | 3 => 3 | 39 => 125 | 0 => 0 | 53 => 194 | 55 => 196 | 4 => 4 | 46 => 188 | 45 => 187 | 50 => 165 | 5 => 5 | 9 => 9 | 66 => 281 | 70 => 285 | 76 => 337 | 77 => 221 | n => n, fun | n => n⟩
theorem Tryz.sortEn : Go.Proofs.SlLaysF0.n6 Tryz.prog Tryz.sortEn_ren := {
 mixed := by kernel_rfl
 f6 := ⟨Tryz.f331.name, by decide, Tryz.func331.trans (congrArg some (by kernel_rfl))⟩
 f14 := ⟨Tryz.f365.name, by decide, Tryz.func365.trans (congrArg some (by kernel_rfl))⟩
 f15 := Tryz.func62.trans (congrArg some (by kernel_rfl))
 f20 := ⟨Tryz.f388.name, by decide, Tryz.func388.trans (congrArg some (by kernel_rfl))⟩
 f21 := ⟨Tryz.f389.name, by decide, Tryz.func389.trans (congrArg some (by kernel_rfl))⟩
 f22 := ⟨Tryz.f390.name, by decide, Tryz.func390.trans (congrArg some (by kernel_rfl))⟩
 f23 := ⟨Tryz.f391.name, by decide, Tryz.func391.trans (congrArg some (by kernel_rfl))⟩
 f24 := ⟨Tryz.f392.name, by decide, Tryz.func392.trans (congrArg some (by kernel_rfl))⟩
 f25 := ⟨Tryz.f393.name, by decide, Tryz.func393.trans (congrArg some (by kernel_rfl))⟩
 f26 := ⟨Tryz.f394.name, by decide, Tryz.func394.trans (congrArg some (by kernel_rfl))⟩
 f27 := ⟨Tryz.f395.name, by decide, Tryz.func395.trans (congrArg some (by kernel_rfl))⟩
 f28 := Tryz.func133.trans (congrArg some (by kernel_rfl))
 f29 := Tryz.func134.trans (congrArg some (by kernel_rfl))
 f46 := ⟨Tryz.f404.name, by decide, Tryz.func404.trans (congrArg some (by kernel_rfl))⟩
 f47 := Tryz.func212.trans (congrArg some (by kernel_rfl))
 f48 := Tryz.func213.trans (congrArg some (by kernel_rfl))
 f49 := ⟨Tryz.f405.name, by decide, Tryz.func405.trans (congrArg some (by kernel_rfl))⟩
 f50 := ⟨Tryz.f406.name, by decide, Tryz.func406.trans (congrArg some (by kernel_rfl))⟩
 f57 := ⟨Tryz.f408.name, by decide, Tryz.func408.trans (congrArg some (by kernel_rfl))⟩
 t0 := Tryz.underlying0
 a0 := Tryz.isAgg0
 z0 := Tryz.sizeOf0
 v0 := Tryz.zeroValue0
 t3 := Tryz.underlying3
 a3 := Tryz.isAgg3
 z3 := Tryz.sizeOf3
 v3 := Tryz.zeroValue3
 t4 := Tryz.underlying4
 a4 := Tryz.isAgg4
 z4 := Tryz.sizeOf4
 v4 := Tryz.zeroValue4
 t5 := Tryz.underlying5
 a5 := Tryz.isAgg5
 z5 := Tryz.sizeOf5
 v5 := Tryz.zeroValue5
 t9 := Tryz.underlying9
 a9 := Tryz.isAgg9
 z9 := Tryz.sizeOf9
 v9 := Tryz.zeroValue9
 t22 := Tryz.underlying293
 a22 := Tryz.isAgg293
 z22 := Tryz.sizeOf293
 v22 := Tryz.zeroValue293
 t25 := Tryz.underlying390
 a25 := Tryz.isAgg390
 z25 := Tryz.sizeOf390
 v25 := Tryz.zeroValue390
 t39 := Tryz.underlying125
 a39 := Tryz.isAgg125
 z39 := Tryz.sizeOf125
 v39 := Tryz.zeroValue125
 t45 := Tryz.underlying187
 a45 := Tryz.isAgg187
 z45 := Tryz.sizeOf187
 v45 := Tryz.zeroValue187
 t46 := Tryz.underlying188
 a46 := Tryz.isAgg188
 z46 := Tryz.sizeOf188
 v46 := Tryz.zeroValue188
 t50 := Tryz.underlying165
 a50 := Tryz.isAgg165
 z50 := Tryz.sizeOf165
 v50 := Tryz.zeroValue165
 t53 := Tryz.underlying194
 a53 := Tryz.isAgg194
 z53 := Tryz.sizeOf194
 v53 := Tryz.zeroValue194
 t55 := Tryz.underlying196
 a55 := Tryz.isAgg196
 z55 := Tryz.sizeOf196
 v55 := Tryz.zeroValue196
 t66 := Tryz.underlying281
 a66 := Tryz.isAgg281
 z66 := Tryz.sizeOf281
 v66 := Tryz.zeroValue281
 t70 := Tryz.underlying285
 a70 := Tryz.isAgg285
 z70 := Tryz.sizeOf285
 v70 := Tryz.zeroValue285
 t76 := Tryz.underlying337
 a76 := Tryz.isAgg337
 z76 := Tryz.sizeOf337
 v76 := Tryz.zeroValue337
 t77 := Tryz.underlying221
 a77 := Tryz.isAgg221
 z77 := Tryz.sizeOf221
 v77 := Tryz.zeroValue221 }
end Go.Proofs
namespace Go.Proofs.YtokkghhmliplfaaGreat
section
open Go.RowKit Go.Sort
attribute [local go_sem] qAt qUpon okOp okUpon cell_in_grow frozen_in_grow encFixV_eq encBodyV_eq encJointV_eq encPkV_eq encPtV_eq encCtV_eq encMfV_eq encWorldV_eq
attribute [local go_sem ↓] loadAt31 storeAt31 loadAt99 storeAt99 loadAt44 storeAt44 loadAt58 storeAt58 loadAt70 storeAt70 loadAt25 storeAt25 loadAt94 storeAt94 loadAt143 storeAt143
attribute [local go_sem] run_bl31 run_bs31 run_bl99 run_bs99 run_bl44 run_bs44 run_bl58 run_bs58 run_bl70 run_bs70 run_bl25 run_bs25 run_bl94 run_bs94 run_bl143 run_bs143 there_new there_alloc have_in_grow cells_in_grow oc_int oc_bool oc_slice oc_all oc_cons oc_nil List.size_toArray List.length_cons List.length_nil
attribute [local go_sem high] eqR23 eqR94
theorem eqlNil_26 (W : World) (a : Option Addr) (n c : Nat) : (binOp .eql 26 (.slice a n c) (.slice none 0 0)).run Tryz.prog W = .ok (.bool a.isNone) W := Go.Lib.run_eql_slice_nil W 26 _ a n c 0 0 Tryz.underlying26
theorem eqlNil_27 (W : World) (a : Option Addr) (n c : Nat) : (binOp .eql 27 (.slice a n c) (.slice none 0 0)).run Tryz.prog W = .ok (.bool a.isNone) W := Go.Lib.run_eql_slice_nil W 27 _ a n c 0 0 Tryz.underlying27
theorem eqlNil_28 (W : World) (a : Option Addr) (n c : Nat) : (binOp .eql 28 (.slice a n c) (.slice none 0 0)).run Tryz.prog W = .ok (.bool a.isNone) W := Go.Lib.run_eql_slice_nil W 28 _ a n c 0 0 Tryz.underlying28
theorem eqlNil_29 (W : World) (a : Option Addr) (n c : Nat) : (binOp .eql 29 (.slice a n c) (.slice none 0 0)).run Tryz.prog W = .ok (.bool a.isNone) W := Go.Lib.run_eql_slice_nil W 29 _ a n c 0 0 Tryz.underlying29
theorem cloneNil_54 (w : World) : Calls Tryz.prog 54 #[.slice none 0 0] w fun e w' => e = .returned (.slice none 0 0) ∧ w = w' := by
 have he : ∀ W a n c, (binOp .eql 27 (.slice a n c) (.slice none 0 0)).run Tryz.prog W = .ok (.bool a.isNone) W := fun W a n c => eqlNil_27 W a n c
 go_enter Tryz.func54, Tryz.ntmps54
 go_wp2_with fail
 go_ret
 exact ⟨rfl, rfl⟩
theorem cloneNil_55 (w : World) : Calls Tryz.prog 55 #[.slice none 0 0] w fun e w' => e = .returned (.slice none 0 0) ∧ w = w' := by
 have he : ∀ W a n c, (binOp .eql 28 (.slice a n c) (.slice none 0 0)).run Tryz.prog W = .ok (.bool a.isNone) W := fun W a n c => eqlNil_28 W a n c
 go_enter Tryz.func55, Tryz.ntmps55
 go_wp2_with fail
 go_ret
 exact ⟨rfl, rfl⟩
theorem cloneNil_56 (w : World) : Calls Tryz.prog 56 #[.slice none 0 0] w fun e w' => e = .returned (.slice none 0 0) ∧ w = w' := by
 have he : ∀ W a n c, (binOp .eql 29 (.slice a n c) (.slice none 0 0)).run Tryz.prog W = .ok (.bool a.isNone) W := fun W a n c => eqlNil_29 W a n c
 go_enter Tryz.func56, Tryz.ntmps56
 go_wp2_with fail
 go_ret
 exact ⟨rfl, rfl⟩
def Pk (w : World) (b t : Nat) (cs : Array Value) : Prop := ∃ rest : Array Value, Bk w b t (cs ++ rest)
theorem Pk.grw {w w' : World} {b t : Nat} {cs : Array Value} (h : Pk w b t cs) (hg : Grw w w') : Pk w' b t cs := h.imp fun _ h => h.grw hg
theorem OwnL.pk {α : Type} {e size : Nat} {enc : α → List Value} {w : World} {base : Nat} {v : Value} {xs : List α} (hk : ∀ x, (enc x).length = size) (h : OwnL e size enc w base v xs) (hx : xs ≠ []) :
   ∃ g cap, v = .slice (some ⟨g, 0, none⟩) xs.length cap ∧ base ≤ g ∧ Pk w g e (xs.flatMap enc).toArray := by
 obtain ⟨h1, ⟨_, h2⟩ | ⟨g, cap, cur, hv, h3, h4, h5, h6, h7, h8⟩⟩ := h
 · exact absurd (List.length_eq_zero_iff.1 h2) hx
 · refine ⟨g, cap, hv, h3, (cur.toList.drop (xs.length * size)).toArray, ?_⟩
   unfold Bk
   rw [h4, ← h8]
   congr 2
   rw [List.append_toArray, List.take_append_drop, Array.toArray_toList]
theorem infoBody : (Tryz.prog.info? 44).map (fun i => (i.zero, i.size, i.bytes)) = some (some (.agg (encBodyV BodyV.d).toArray), 20, 152) := by kernel_rfl
theorem encBody_one (x : BodyV) : ∀ u ∈ encBodyV x, u.oneCell' = true := fun u hu => by
 simp [encBodyV] at hu
 rcases hu with rfl | rfl | rfl | rfl | rfl | rfl | rfl | rfl | rfl | rfl | rfl | rfl | rfl | rfl | rfl | rfl | rfl | rfl | rfl | rfl <;> rfl
theorem cloneBodies_any (a : Addr) (cap : Nat) (l : List BodyV) (w : World) (hs : Sl 20 encBodyV w (some a) l) (hl : l.length * 152 ≤ 140737488355328) (h0 : l ≠ []) :
   Calls Tryz.prog 53 #[.slice (some a) l.length cap] w fun e w' => ∃ v, e = .returned v ∧ Grw w w' ∧ OwnL 44 20 encBodyV w' w.heap.size v l := by
 have HS := Lib.hid hs; clear hs
 have he : ∀ W a n c, (binOp .eql 26 (.slice a n c) (.slice none 0 0)).run Tryz.prog W = .ok (.bool a.isNone) W := fun W a n c => eqlNil_26 W a n c
 go_enter Tryz.func53, Tryz.ntmps53
 have hA : OwnL 44 20 encBodyV (w.alloc (.cells #[] 44)) w.heap.size (.slice (some ⟨w.heap.size, 0, none⟩) 0 0) [] := ⟨rfl, .inr ⟨w.heap.size, 0, #[], rfl, Nat.le_refl _, heap_alloc_new w _, Nat.le_refl _, Nat.zero_le _, rfl, rfl⟩⟩
 have HA := Lib.hid hA; clear hA
 go_wp2_with (at_builtin; refine wpList_appendAll (enc := encBodyV) (z := .agg (encBodyV BodyV.d).toArray) (bytes := 152) (fun _ => rfl) encBody_one w.heap.size rfl _ _ rfl Tryz.underlying26 infoBody rfl (by decide) (by decide) (.slice (some ⟨w.heap.size, 0, none⟩) 0 0) [] l (some a) cap rfl rfl HA.out (HS.out.grw ((Grw.refl w).alloc _)) (by simp) (by simpa using hl) ?_; intro v1 w1 hO hC hat)
 have hw1 : Grw w w1 := OnlyChg.near (S := fun k => w.heap.size ≤ k) ((OnlyChg.of_grw ((Grw.refl w).alloc _)).trans (hC.mono fun k _ hk => (HA.out.base_le k hk).1)) fun k h => h
 have HO := Lib.hid hO; clear hO hC hat HA
 go_wp2_with fail
 go_ret
 exact ⟨v1, rfl, hw1, HO.out⟩
theorem indexByKey_nil (w : World) : Calls Tryz.prog 166 #[.slice none 0 0] w fun e w' => ∃ v, e = .returned v ∧ Grw w w' := by
 have hmm := @run_makeMap Tryz.prog
 go_enter Tryz.func166, Tryz.ntmps166
 go_wp2_with fail
 refine wp_loop_rounds 1 ?_
 rw [rounds_succ]
 go_wp2_with fail
 go_ret
 exact ⟨_, rfl, by (repeat with_reducible first | exact .refl _ | assumption | refine .setAt ?_ (by first | omega | simp <;> omega) _ | refine .setCells ?_ (by first | omega | simp <;> omega) _ | refine .alloc ?_ _ | refine .drewN ?_ _ | refine .drew ?_ | refine .trans ?_ (by assumption))⟩
theorem eventsFor_nil (k : Int) (w : World) : Calls Tryz.prog 171 #[.slice none 0 0, .slice none 0 0, .int .i64 k] w fun e w' => e = .returned (.slice none 0 0) ∧ Grw w w' := by
 go_enter Tryz.func171, Tryz.ntmps171
 go_wp2_with fail
 (go_at_call 166; refine (indexByKey_nil _).mono ?_; rintro e w1 ⟨v, rfl, hg1⟩)
 go_wp2_with fail
 refine wp_loop_rounds 1 ?_
 rw [rounds_succ]
 go_wp2_with fail
 go_ret
 exact ⟨rfl, by (repeat with_reducible first | exact .refl _ | assumption | refine .setAt ?_ (by first | omega | simp <;> omega) _ | refine .setCells ?_ (by first | omega | simp <;> omega) _ | refine .alloc ?_ _ | refine .drewN ?_ _ | refine .drew ?_ | refine .trans ?_ (by assumption))⟩
theorem wpList_nilnil {ops : Array Oper} {rest : List Oper} {o : Oper} {a : Act} {Q : Exit → Act → World → Prop} {W : World} {e t : TypeId} (hgd : o.guard = none) (s x : Operand)
   (ho : o.op = .call { callee := .builtin .append, args := #[s, x], argTypes := #[t, t] }) (ht : Tryz.prog.underlying t = some (.slice e)) (hi : (Tryz.prog.info? e).isSome = true)
   (hs : a.eval s = .slice none 0 0) (hx : a.eval x = .slice none 0 0) (h : wpList Tryz.prog ops Q rest (a.put o.dst (.slice none 0 0)) W) : wpList Tryz.prog ops Q (o :: rest) a W := by
 obtain ⟨i, hi⟩ := Option.isSome_iff_exists.1 hi
 exact Go.Lib.wpList_append_run W hgd s x t t ho _ _ hs hx _ W (run_append_nothing W t t _ e i ht hi none 0 0 (Nat.le_refl _) _ (Src.ofNil W ht 0)) h
theorem events_nil (w : World) : Calls Tryz.prog 102 #[.slice none 0 0, .slice none 0 0] w fun e w' => e = .returned (.slice none 0 0) ∧ Grw w w' := by
 go_enter Tryz.func102, Tryz.ntmps102
 go_wp2_with fail
 (go_at_call 171; refine (eventsFor_nil _ _).mono ?_; rintro e w1 ⟨rfl, hg1⟩)
 go_wp2_with fail
 (go_at_call 171; refine (eventsFor_nil _ _).mono ?_; rintro e w2 ⟨rfl, hg2⟩)
 go_wp2_with (at_builtin; refine wpList_nilnil rfl _ _ rfl Tryz.underlying71 (by kernel_rfl) rfl rfl ?_)
 go_ret
 exact ⟨rfl, hg1.trans hg2⟩
end
section
open Go.RowKit Go.Sort Go.Shelf
attribute [local go_sem] qAt qUpon okOp okUpon cell_in_grow frozen_in_grow encFixV_eq encBodyV_eq encJointV_eq encPkV_eq encPtV_eq encCtV_eq encMfV_eq encWorldV_eq
attribute [local go_sem ↓] loadAt31 storeAt31 loadAt99 storeAt99 loadAt44 storeAt44 loadAt58 storeAt58 loadAt70 storeAt70 loadAt25 storeAt25 loadAt94 storeAt94 loadAt143 storeAt143
attribute [local go_sem] run_bl31 run_bs31 run_bl99 run_bs99 run_bl44 run_bs44 run_bl58 run_bs58 run_bl70 run_bs70 run_bl25 run_bs25 run_bl94 run_bs94 run_bl143 run_bs143 there_new there_alloc have_in_grow cells_in_grow oc_int oc_bool oc_slice oc_all oc_cons oc_nil List.size_toArray List.length_cons List.length_nil
attribute [local go_sem high] eqR23 eqR94
attribute [local go_sem] Oper.semAt_some
theorem Grw.ofBelow {a b : World} (h : Below a.heap.size a b) : Grw a b := OnlyChg.toGrw ⟨h.os, h.tape, h.output, h.size, fun k hk _ => h.block k hk⟩
theorem sortEnNil (p : Option Addr) (cap : Nat) (fv : Value) (w : World) : Calls Tryz.prog 331 #[.slice p 0 cap, fv] w fun e w' => e = .returned (.tuple #[]) ∧ w' = w := by
 have hcon := AnyF.slices_SortFunc_none Tryz.sortEn p cap fv w
 change Calls Tryz.prog 331 _ _ _ at hcon
 exact hcon
theorem sortPrNil (p : Option Addr) (cap : Nat) (fv : Value) (w : World) : Calls Tryz.prog 285 #[.slice p 0 cap, fv] w fun e w' => e = .returned (.tuple #[]) ∧ w' = w := by
 have hcon := AnyF.slices_SortFunc_none Tryz.sortPr p cap fv w
 change Calls Tryz.prog 285 _ _ _ at hcon
 exact hcon
theorem sortPkNil (p : Option Addr) (cap : Nat) (fv : Value) (w : World) : Calls Tryz.prog 231 #[.slice p 0 cap, fv] w fun e w' => e = .returned (.tuple #[]) ∧ w' = w := by
 have hcon := AnyF.slices_SortFunc_none Tryz.sortPk p cap fv w
 change Calls Tryz.prog 231 _ _ _ at hcon
 exact hcon
theorem sapSort_nil (w : World) : Calls Tryz.prog 284 #[.slice none 0 0] w fun e w' => e = .returned (.slice none 0 0) ∧ Grw w w' := by
 have hmm := @run_makeMap Tryz.prog
 go_enter Tryz.func284, Tryz.ntmps284
 go_wp2_with fail
 refine wp_loop_rounds 1 ?_
 rw [rounds_succ]
 go_wp2_with fail
 (go_at_call 331; refine (sortEnNil _ _ _ _).mono ?_; rintro e w1 ⟨rfl, rfl⟩)
 go_wp2_with fail
 go_ret
 exact ⟨rfl, by (repeat with_reducible first | exact .refl _ | assumption | refine .setAt ?_ (by first | omega | simp <;> omega) _ | refine .setCells ?_ (by first | omega | simp <;> omega) _ | refine .alloc ?_ _ | refine .drewN ?_ _ | refine .drew ?_ | refine .trans ?_ (by assumption))⟩
theorem neighbors_nil (w : World) : Calls Tryz.prog 283 #[.slice none 0 0] w fun e w' => e = .returned (.func (.func 330) #[] #[.pointer (some ⟨w.heap.size, 0, none⟩)]) ∧ w' = w.alloc (.cells #[.slice none 0 0] 293) := by
 go_enter Tryz.func283, Tryz.ntmps283
 go_wp2_with fail
 go_ret
 exact ⟨rfl, rfl⟩
theorem nbrNil (w : World) (b : Nat) (hb : Bk w b 293 #[.slice none 0 0]) (y : Value) : Calls Tryz.prog 330 #[y, .pointer (some ⟨b, 0, none⟩)] w fun e w' => e = .returned (.tuple #[]) ∧ w' = w := by
 have g0 : w.cell? ⟨b, 0, none⟩ = some (.slice none 0 0) := hb.cell 0
 go_enter Tryz.func330, Tryz.ntmps330
 go_wp2_with fail
 refine wp_loop_rounds 1 ?_
 rw [rounds_succ]
 go_wp2_with fail
 refine bodyPost_end (results_none rfl _ _ _) rfl ?_
 exact ⟨rfl, rfl⟩
theorem sapPairs_nil (w : World) : Calls Tryz.prog 228 #[.slice none 0 0] w fun e w' => e = .returned (.slice none 0 0) ∧ Grw w w' := by
 refine (callsIn_wide (n := 9)).1 ?_
 refine callsIn_of_wp_marks Tryz.func228 rfl trivial ?_ rfl
 simp only [Tryz.ntmps228, List.size_toArray, List.length_cons, List.length_nil, Nat.reduceAdd, Nat.reduceSub, Array.replicate_succ, Array.replicate_zero, List.push_toArray, List.append_toArray, List.nil_append, List.cons_append]
 gi_wp2
 have hgB := (Grw.refl w).alloc (.cells #[.slice none 0 0] 297)
 have hbB : Bk (w.alloc (.cells #[.slice none 0 0] 297)) w.heap.size 297 #[.slice none 0 0] := Bk.new _ _ _
 refine ⟨trivial, (callsIn_wide.2 (sapSort_nil _)).mono ?_⟩
 rintro e w4 ⟨rfl, hg4⟩
 have hw4 := hgB.trans hg4
 have hx4 := hbB.grw hg4
 clear hgB hbB hg4
 gi_wp2
 refine ⟨trivial, (callsIn_wide.2 (neighbors_nil w4)).mono ?_⟩
 rintro e w5 ⟨rfl, rfl⟩
 gi_wp2
 obtain ⟨W0, hW0⟩ : ∃ W0, W0 = w4.alloc (.cells #[.slice none 0 0] 293) := ⟨_, rfl⟩
 have hgW : Grw w4 W0 := hW0 ▸ (Grw.refl w4).alloc _
 have hsl : Bk W0 w4.heap.size 293 #[.slice none 0 0] := hW0 ▸ Bk.new w4 _ _
 have hw0 := hw4.trans hgW
 have hx0 := hx4.grw hgW
 rw [← hW0]
 clear hW0 hgW hx4 hw4
 refine wpIn_rangeFunc_ownH (α := Empty) rfl (by omega) (gf := 330) (lb := #[.pointer (some ⟨w4.heap.size, 0, none⟩)]) rfl trivial (enters_of Tryz.func330 (by kernel_rfl) rfl)
   (encs := fun x => nomatch x) (Kp := fun _ _ => True) (S := fun _ => True) (Sp := fun _ => False) (N := 0) (w0 := W0)
   (fun l J Jx W hW _ _ _ h0 => (callsIn_wide.2 (nbrNil W w4.heap.size ((hW.block _ hsl.lt).trans hsl) _)).mono fun e W' h => ⟨⟨_, h.1⟩, .inl ⟨[], trivial, h.2 ▸ h0⟩⟩)
   (fun _ _ => trivial) (fun _ _ _ _ _ _ _ _ => trivial) (Below.refl _ _) (fun x => nomatch x)
   (fun _ W => Below W0.heap.size W0 W) (fun _ _ _ => False)
   (ownFrom_below (Nat.le_refl _) (Nat.le_refl _))
   (fun _ _ _ _ _ hs _ _ => hs)
   (Below.refl _ _)
   (fun x _ _ => nomatch x)
   (fun x => nomatch x)
   ?assign ?body ?done ?stop
 case assign => exact fun l pre x => nomatch x
 case body => exact fun l pre x => nomatch x
 case done =>
   rintro D zs W hD _ h3 hK
   have hx1 : Bk W w.heap.size 297 #[.slice none 0 0] := (h3.block _ hx0.lt).trans hx0
   have g1 : W.cell? ⟨w.heap.size, 0, none⟩ = some (.slice none 0 0) := hx1.cell 0
   gi_wp2
   refine ⟨trivial, (callsIn_wide.2 (sortPrNil none 0 _ W)).mono ?_⟩
   rintro e w8 ⟨rfl, rfl⟩
   gi_wp2
   refine ⟨by simp, .inl ⟨_, _, rfl, run_takeDeferred hK, ?_⟩⟩
   exact ⟨_, results_tmp rfl _ _ _, rfl, hw0.trans (Grw.ofBelow (h3.trans (belowK_b (w := W0) (Nat.le_refl _) w8 D _ _ (by omega) hK rfl rfl)))⟩
 case stop =>
   rintro D c pre W hD hp
   exact hp.elim
end
section
open Go.RowKit Go.Sort Go.ChangeMaps
section
variable {α : Type}
def MapIs (enc : α → Value) (w : World) (b : Nat) (l : List (Int × α)) : Prop :=
 ∃ es clock, w.heap[b]? = some (.map es clock) ∧ es.toList.map (fun e => (e.key, e.val)) = l.map (fun x => (Value.int .i64 x.1, enc x.2)) ∧ ∀ x ∈ l, (Lit.int .i64 x.1).wf = true
theorem MapIs.lt {enc : α → Value} {w : World} {b : Nat} {l : List (Int × α)} (h : MapIs enc w b l) : b < w.heap.size := by
 obtain ⟨es, c, hb, _⟩ := h; exact (Array.getElem?_eq_some_iff.1 hb).1
theorem MapIs.grw {enc : α → Value} {w w' : World} {b : Nat} {l : List (Int × α)} (h : MapIs enc w b l) (hg : Grw w w') : MapIs enc w' b l := by
 have hl := h.lt
 obtain ⟨es, c, hb, h2⟩ := h
 exact ⟨es, c, (hg.heap hl).trans hb, h2⟩
theorem key3 : Go.Maps.Keyed Tryz.prog 3 := Go.Maps.int_keyed Tryz.underlying3
theorem MapIs.find {enc : α → Value} {w : World} {l : List (Int × α)} {es : Array MapEntry} {i : Int} (hi : (Lit.int .i64 i).wf = true)
   (he : es.toList.map (fun e => (e.key, e.val)) = l.map (fun x => (Value.int .i64 x.1, enc x.2))) (hw : ∀ x ∈ l, (Lit.int .i64 x.1).wf = true) :
   ((Instr.findKey 3 (.int .i64 i) es.toList).run Tryz.prog w = .ok none w ∧ ∀ x ∈ l, x.1 ≠ i) ∨ ∃ (j : Nat) (v : α), (Instr.findKey 3 (.int .i64 i) es.toList).run Tryz.prog w = .ok (some (j, enc v)) w ∧ l[j]? = some (i, v) := by
 have hk : ∀ e ∈ es.toList, ∃ k, keyOf Tryz.prog 3 e.key = some k := fun e h => by
   have h1 : (e.key, e.val) ∈ es.toList.map (fun e => (e.key, e.val)) := List.mem_map.2 ⟨e, h, rfl⟩
   rw [he] at h1
   obtain ⟨x, hx, hxe⟩ := List.mem_map.1 h1
   simp only [Prod.mk.injEq] at hxe
   rw [← hxe.1]
   exact ⟨_, Go.Maps.keyOf_int_mk Tryz.underlying3 (hw x hx)⟩
 rcases key3.find w (Go.Maps.keyOf_int_mk Tryz.underlying3 hi) es.toList hk with ⟨h1, h2⟩ | ⟨j, e, h1, h2, h3⟩
 · refine .inl ⟨h1, fun x hx hxi => ?_⟩
   have h4 : (Value.int .i64 x.1, enc x.2) ∈ es.toList.map (fun e => (e.key, e.val)) := by rw [he]; exact List.mem_map.2 ⟨x, hx, rfl⟩
   obtain ⟨e, he1, he2⟩ := List.mem_map.1 h4
   simp only [Prod.mk.injEq] at he2
   exact h2 e he1 (by rw [he2.1, hxi])
 · have h4 : (es.toList.map (fun e => (e.key, e.val)))[j]? = some (e.key, e.val) := by rw [List.getElem?_map, h2]; rfl
   rw [he, List.getElem?_map] at h4
   cases hl : l[j]? with
   | none => rw [hl] at h4; simp at h4
   | some x =>
     rw [hl] at h4
     simp only [Option.map_some, Option.some.injEq, Prod.mk.injEq] at h4
     obtain ⟨x1, x2⟩ := x
     have e1 : x1 = i := by
       have := h4.1.trans h3
       injection this
     subst e1
     refine .inr ⟨j, x2, ?_, hl.trans rfl⟩
     rw [h1, ← h4.2]
theorem key_of_nodup {l : List (Int × α)} (nd : (l.map (·.1)).Nodup) {i : Int} {v v' : α} (h : (i, v) ∈ l) (h' : (i, v') ∈ l) : v = v' := by
 induction l with
 | nil => cases h
 | cons x r ih =>
   simp only [List.map_cons, List.nodup_cons, List.mem_map, not_exists, not_and] at nd
   simp only [List.mem_cons] at h h'
   rcases h with h | h <;> rcases h' with h' | h'
   · rw [← h] at h'; simpa using h'.symm
   · exact absurd (show (i, v').1 = x.1 by rw [← h]) (nd.1 _ h')
   · exact absurd (show (i, v).1 = x.1 by rw [← h']) (nd.1 _ h)
   · exact ih nd.2 h h'
theorem MapIs.look_no {enc : α → Value} {t e : TypeId} (ht : Tryz.prog.underlying t = some (.map 3 e)) {z : Value} (hz : ∀ w : World, (zeroValue e).run Tryz.prog w = .ok z w) {w : World} {b : Nat} {l : List (Int × α)} (h : MapIs enc w b l) {i : Int} (hwf : (Lit.int .i64 i).wf = true) (hi : ∀ x ∈ l, x.1 ≠ i) (cm : Bool) :
   (Instr.lookup t (.map (some b)) (.int .i64 i) cm).run Tryz.prog w = .ok (if cm then .tuple #[z, .bool false] else z) w := by
 obtain ⟨es, c, hb, he, hw⟩ := h
 rcases MapIs.find (w := w) hwf he hw with ⟨h1, _⟩ | ⟨j, v', _, h2⟩
 · simp [Instr.lookup, run_underlying ht, MapKept.run_getObj_map hb, key3.check w _ (Go.Maps.keyOf_int_mk Tryz.underlying3 hwf), h1, hz, Result.andThen]
 · exact absurd rfl (hi _ (List.mem_of_getElem? h2))
theorem MapIs.look_yes1 {enc : α → Value} {t e : TypeId} (ht : Tryz.prog.underlying t = some (.map 3 e)) {w : World} {b : Nat} {l : List (Int × α)} (h : MapIs enc w b l) (nd : (l.map (·.1)).Nodup) {i : Int} {v : α} (hi : (i, v) ∈ l) :
   (Instr.lookup t (.map (some b)) (.int .i64 i) false).run Tryz.prog w = .ok (enc v) w := by
 obtain ⟨es, c, hb, he, hw⟩ := h
 have hwf : (Lit.int .i64 i).wf = true := hw _ hi
 rcases MapIs.find (w := w) hwf he hw with ⟨_, h2⟩ | ⟨j, v', h1, h2⟩
 · exact absurd rfl (h2 _ hi)
 · have : v = v' := key_of_nodup nd hi (List.mem_of_getElem? h2)
   subst this
   simp [Instr.lookup, run_underlying ht, MapKept.run_getObj_map hb, key3.check w _ (Go.Maps.keyOf_int_mk Tryz.underlying3 hwf), h1, Result.andThen]
theorem onlyChg_setBlock (w : World) (b : Nat) (o : Obj) {es : Array MapEntry} {c : Nat} (hb : w.heap[b]? = some (.map es c)) : OnlyChg (fun k => k = b) w (setBlock w b o) :=
 ⟨rfl, rfl, rfl, by simp [setBlock], fun i _ hi => heap_setBlock_other hb _ (fun e => hi e)⟩
theorem MapIs.add {enc : α → Value} {t e : TypeId} (ht : Tryz.prog.underlying t = some (.map 3 e)) {w : World} {b : Nat} {l : List (Int × α)} (h : MapIs enc w b l) {i : Int} (hwf : (Lit.int .i64 i).wf = true) (hi : ∀ x ∈ l, x.1 ≠ i) (v : α) :
   ∃ w', (Instr.mapUpdate t (.map (some b)) (.int .i64 i) (enc v)).run Tryz.prog w = .ok () w' ∧ MapIs enc w' b (l ++ [(i, v)]) ∧ OnlyChg (fun k => k = b) w w' := by
 have hl := h.lt
 obtain ⟨es, c, hb, he, hw⟩ := h
 rcases MapIs.find (w := w) hwf he hw with ⟨h1, _⟩ | ⟨j, v', _, h2⟩
 · refine ⟨setBlock w b (.map (es.push { key := .int .i64 i, val := enc v, born := c }) (c + 1)), ?_, ⟨_, _, heap_setBlock_same hb _, ?_, ?_⟩, onlyChg_setBlock w b _ hb⟩
   · simp [Instr.mapUpdate, run_underlying ht, MapKept.run_getObj_map hb, key3.check w false (Go.Maps.keyOf_int_mk Tryz.underlying3 hwf), h1, MapKept.run_setObj_map _ hb, Result.andThen, setBlock]
   · simp [he]
   · intro x hx
     simp only [List.mem_append, List.mem_singleton] at hx
     rcases hx with hx | rfl
     · exact hw x hx
     · exact hwf
 · exact absurd rfl (hi _ (List.mem_of_getElem? h2))
theorem MapIs.made (enc : α → Value) (w : World) : MapIs enc (w.alloc (.map #[] 0)) w.heap.size [] := ⟨#[], 0, heap_alloc_new w _, by simp, by simp⟩
end
end
section
open Go.RowKit Go.Sort
attribute [local go_sem] qAt qUpon okOp okUpon cell_in_grow frozen_in_grow encFixV_eq encBodyV_eq encJointV_eq encPkV_eq encPtV_eq encCtV_eq encMfV_eq encWorldV_eq
attribute [local go_sem ↓] loadAt31 storeAt31 loadAt99 storeAt99 loadAt44 storeAt44 loadAt58 storeAt58 loadAt70 storeAt70 loadAt25 storeAt25 loadAt94 storeAt94 loadAt143 storeAt143
attribute [local go_sem] run_bl31 run_bs31 run_bl99 run_bs99 run_bl44 run_bs44 run_bl58 run_bs58 run_bl70 run_bs70 run_bl25 run_bs25 run_bl94 run_bs94 run_bl143 run_bs143 there_new there_alloc have_in_grow cells_in_grow oc_int oc_bool oc_slice oc_all oc_cons oc_nil List.size_toArray List.length_cons List.length_nil
attribute [local go_sem high] eqR23 eqR94
attribute [local go_sem] encObV_eq
theorem encOb_body (b : ObV) : encBodyV b.body = encObV b := rfl
theorem newScene0 (a : Addr) (cap : Nat) (b : ObV) (w : World) (hs : Sl 20 encBodyV w (some a) [b.body]) (hid : (Lit.int .i64 b.id).wf = true) :
   Calls Tryz.prog 227 #[.slice (some a) 1 cap, .slice none 0 0] w fun e w' => e = .returned (.agg #[.slice (some a) 1 cap, .slice none 0 0, .slice none 0 0, .slice none 0 0]) ∧ Grw w w' := by
 have HS := Lib.hid hs; clear hs
 have hmm := @run_makeMap Tryz.prog
 go_enter Tryz.func227, Tryz.ntmps227
 go_upto_region 3 with (fail)
 refine wp_gen (fun xw => Grw w xw ∧ Bk xw w.heap.size 295 #[.slice none 0 0, .slice none 0 0, .slice none 0 0, .slice none 0 0] ∧ Bk xw (w.heap.size + 1) 295 #[.slice (some a) 1 cap, .slice none 0 0, .slice none 0 0, .slice none 0 0] ∧ MapIs Value.bool xw (w.heap.size + 1 + 1) []) ⟨by (repeat with_reducible first | exact .refl _ | assumption | refine .setAt ?_ (by first | omega | simp <;> omega) _ | refine .setCells ?_ (by first | omega | simp <;> omega) _ | refine .alloc ?_ _ | refine .drewN ?_ _ | refine .drew ?_ | refine .trans ?_ (by assumption)), by (repeat' first | (with_reducible first | assumption | apply Bk.set' | apply Bk.far | apply Bk.setAll' | apply Bk.farCells | exact Bk.new' (by simp) | refine Bk.alloc ?_ _ | refine Bk.drew ?_) | refine Bk.grw ?_ (by with_reducible assumption) | omega | rfl), by (repeat' first | (with_reducible first | assumption | apply Bk.set' | apply Bk.far | apply Bk.setAll' | apply Bk.farCells | exact Bk.new' (by simp) | refine Bk.alloc ?_ _ | refine Bk.drew ?_) | refine Bk.grw ?_ (by with_reducible assumption) | omega | rfl), ?_⟩ ?_
 · have h := MapIs.made Value.bool ((w.alloc (.cells #[.slice none 0 0, .slice none 0 0, .slice none 0 0, .slice none 0 0] 295)).alloc (.cells #[.slice (some a) 1 cap, .slice none 0 0, .slice none 0 0, .slice none 0 0] 295))
   simpa using h
 rintro w1 ⟨hw1, hA1, hB1, hM1⟩
 obtain ⟨bx, ox, he, hbx, gEA, gEC⟩ := (HS.out.grw hw1).big (fun _ => rfl) (show [b.body][0]? = some b.body from rfl)
 cases he
 rw [Nat.zero_mul, Nat.add_zero] at gEA gEC
 replace gEC : cellsAt w1 bx ox 20 = (encObV b).toArray := gEC
 have hl1 := hM1.lt; have hl2 := hA1.lt; have hl3 := hB1.lt
 have HA1 := Lib.hid hA1; have HB1 := Lib.hid hB1; have HM1 := Lib.hid hM1
 have b1 := HA1.out; have b2 := HB1.out; have b3 := HM1.out
 clear hA1 hB1 hM1
 go_wp2_with fail
 refine wp_loop_rounds 2 ?_
 rw [rounds_succ]
 go_upto_region 6 with (fail)
 refine wp_gen (fun xw => Grw w xw ∧ Bk xw w.heap.size 295 #[.slice none 0 0, .slice none 0 0, .slice none 0 0, .slice none 0 0] ∧ Bk xw (w.heap.size + 1) 295 #[.slice (some ⟨bx, ox, none⟩) 1 cap, .slice none 0 0, .slice none 0 0, .slice none 0 0] ∧ MapIs Value.bool xw (w.heap.size + 1 + 1) [] ∧ Bk xw w1.heap.size 44 (encObV b).toArray) ⟨((hw1).alloc _).setCells (by omega) _, (b1.alloc _).farCells (by omega) _, (b2.alloc _).farCells (by omega) _, b3.grw (((Grw.refl w1).alloc _).setCells (Nat.le_refl _) _), ((Bk.new' (by simp))).setAll' rfl rfl⟩ ?_
 rintro w2 ⟨hw2, hA2, hB2, hM2, hX2⟩
 have g2_0 : w2.cell? ⟨w1.heap.size, 0, none⟩ = some (.int .i64 b.id) := hX2.cell 0
 have hlook := hM2.look_no Tryz.underlying341 (z := .bool false) (fun _ => by kernel_rfl) hid (by simp) false
 simp only [Bool.false_eq_true, if_false] at hlook
 obtain ⟨w3, hup, hM3, hC3⟩ := hM2.add Tryz.underlying341 hid (by simp) true
 have hA3 : Bk w3 w.heap.size 295 _ := (hC3.block _ hA2.lt (by omega)).trans hA2
 have hB3 : Bk w3 (w.heap.size + 1) 295 _ := (hC3.block _ hB2.lt (by omega)).trans hB2
 have hX3 : Bk w3 w1.heap.size 44 (encObV b).toArray := (hC3.block _ hX2.lt (by omega)).trans hX2
 have hw3 : Grw w w3 := OnlyChg.near (S := fun k => w.heap.size ≤ k) ((OnlyChg.of_grw hw2).trans (hC3.mono fun k _ hk => by omega)) fun k h => h
 have g3_19 : w3.cell? ⟨w1.heap.size, 19, none⟩ = some (.slice none 0 0) := hX3.cell 19
 have hcs := fun j => hB3.cell j
 have HA3 := Lib.hid hA3; have HB3 := Lib.hid hB3
 clear hA2 hB2 hM2 hX2 hA3 hB3 hX3 HA1 HB1 HM1 b1 b2 b3 hC3 hM3 hw1 hw2 gEA gEC hcs
 go_upto_region 8 with (fail)
 clear hup hlook g2_0
 go_wp2_with fail
 refine wp_loop_rounds 1 ?_
 rw [rounds_succ]
 go_wp2_with fail
 rw [rounds_succ]
 have g0 : w3.cell? ⟨w.heap.size + 1, 0, none⟩ = some (.slice (some ⟨bx, ox, none⟩) 1 cap) := HB3.out.cell 0
 have g1 : w3.cell? ⟨w.heap.size + 1, 1, none⟩ = some (.slice none 0 0) := HB3.out.cell 1
 have g2 : w3.cell? ⟨w.heap.size + 1, 2, none⟩ = some (.slice none 0 0) := HB3.out.cell 2
 have g3 : w3.cell? ⟨w.heap.size + 1, 3, none⟩ = some (.slice none 0 0) := HB3.out.cell 3
 have q0 : w3.cell? ⟨w.heap.size, 0, none⟩ = some (.slice none 0 0) := HA3.out.cell 0
 have q1 : w3.cell? ⟨w.heap.size, 1, none⟩ = some (.slice none 0 0) := HA3.out.cell 1
 have q2 : w3.cell? ⟨w.heap.size, 2, none⟩ = some (.slice none 0 0) := HA3.out.cell 2
 have q3 : w3.cell? ⟨w.heap.size, 3, none⟩ = some (.slice none 0 0) := HA3.out.cell 3
 have qf := HA3.out.frozen
 go_wp2_with fail
 refine bodyPost_ret (v := .agg #[.slice (some ⟨bx, ox, none⟩) 1 cap, .slice none 0 0, .slice none 0 0, .slice none 0 0]) (results_cell_row Tryz.results227 _ _ _ _ _ _ _ rfl ((((HA3.out.set' rfl).set' rfl).set' rfl).set' rfl) Tryz.underlying295 rfl (by kernel_rfl)) rfl ⟨rfl, by (repeat with_reducible first | exact .refl _ | assumption | refine .setAt ?_ (by first | omega | simp <;> omega) _ | refine .setCells ?_ (by first | omega | simp <;> omega) _ | refine .alloc ?_ _ | refine .drewN ?_ _ | refine .drew ?_ | refine .trans ?_ (by assumption))⟩
theorem findPairs0 (a : Addr) (cap : Nat) (b : ObV) (w : World) (hs : Sl 20 encBodyV w (some a) [b.body]) (hid : (Lit.int .i64 b.id).wf = true) :
   Calls Tryz.prog 167 #[.slice (some a) 1 cap, .slice none 0 0] w fun e w' => e = .returned (.slice none 0 0) ∧ Grw w w' := by
 have HS := Lib.hid hs; clear hs
 go_enter Tryz.func167, Tryz.ntmps167
 go_wp2_with fail
 (go_at_call 227; refine (newScene0 a cap b _ HS.out hid).mono ?_; rintro e w1 ⟨rfl, hg1⟩)
 go_upto_region 3 with (fail)
 refine wp_gen (fun xw => Grw w xw ∧ Bk xw w1.heap.size 295 #[.slice (some a) 1 cap, .slice none 0 0, .slice none 0 0, .slice none 0 0]) ⟨hg1.alloc _, Bk.new' (by simp)⟩ ?_
 rintro w2 ⟨hw2, hB2⟩
 have g3 : w2.cell? ⟨w1.heap.size, 3, none⟩ = some (.slice none 0 0) := hB2.cell 3
 go_wp2_with fail
 (go_at_call 228; refine (sapPairs_nil _).mono ?_; rintro e w3 ⟨rfl, hg3⟩)
 go_wp2_with fail
 refine wp_loop_rounds 1 ?_
 rw [rounds_succ]
 go_wp2_with fail
 (go_at_call 231; refine (sortPkNil _ _ _ _).mono ?_; rintro e w4 ⟨rfl, rfl⟩)
 go_wp2_with fail
 go_ret
 exact ⟨rfl, hw2.trans hg3⟩
def W1 (g c : Nat) (b : ObV) (fr : Int) : WorldV := ⟨8192, 0, -65536, 1, 0, some ⟨g, 0, none⟩, c, [b.body], none, 0, [], none, 0, [], none, 0, [], 2, fr⟩
def encW1 (g c : Nat) (fr : Int) : List Value := [.int .i64 8192, .int .i64 0, .int .i64 (-65536), .int .i64 1, .int .i64 0, .slice (some ⟨g, 0, none⟩) 1 c, .slice none 0 0, .slice none 0 0, .slice none 0 0, .int .i64 2, .int .i64 fr]
theorem encW1_eq (g c : Nat) (fr : Int) : (encW1 g c fr).toArray = #[.int .i64 8192, .int .i64 0, .int .i64 (-65536), .int .i64 1, .int .i64 0, .slice (some ⟨g, 0, none⟩) 1 c, .slice none 0 0, .slice none 0 0, .slice none 0 0, .int .i64 2, .int .i64 fr] := rfl
attribute [local go_sem] encW1_eq
def B1 (w : World) (g : Nat) (b : ObV) : Prop := Sl 20 encBodyV w (some ⟨g, 0, none⟩) [b.body]
theorem W1_ok {g c : Nat} {b : ObV} {fr : Int} {w : World} (h : B1 w g b) : WorldOk w (W1 g c b fr) where
 b := h
 bx := by
   intro x hx
   simp only [W1, List.mem_cons, List.not_mem_nil, or_false] at hx
   subst hx
   exact ⟨Sl.nil, show (0 : Nat) < 4611686018427387904 by decide, fun f hf => by cases hf⟩
 bn := show (1 : Nat) < 4611686018427387904 by decide
 j := Sl.nil
 jn := show (0 : Nat) < 4611686018427387904 by decide
 c := Sl.nil
 cx := fun x hx => by cases hx
 cn := show (0 : Nat) < 4611686018427387904 by decide
 o := Sl.nil
 on := show (0 : Nat) < 4611686018427387904 by decide
theorem validate1 {g c : Nat} {b : ObV} {fr : Int} {w : World} (h : B1 w g b) (hv : validateE (W1 g c b fr) = 0) :
   Calls Tryz.prog 5 #[.agg (encW1 g c fr).toArray] w fun e w' => e = .returned (.int .i64 0) ∧ Grw w w' :=
 (validate_any (W1 g c b fr) w (W1_ok h)).mono fun e w' ⟨he, hg⟩ => ⟨by rw [he, hv], hg⟩
theorem update1 {g c : Nat} {b : ObV} {fr : Int} {w : World} (h : B1 w g b) (hv : validateE (W1 g c b fr) = 0) (hid : (Lit.int .i64 b.id).wf = true) :
   Calls Tryz.prog 101 #[.agg (encW1 g c fr).toArray] w fun e w' => e = .returned (.slice none 0 0) ∧ Grw w w' := by
 have H := Lib.hid h; clear h
 go_enter Tryz.func101, Tryz.ntmps101
 go_upto_region 1 with (fail)
 refine wp_gen (fun xw => Grw w xw ∧ Bk xw w.heap.size 31 (encW1 g c fr).toArray) ⟨(Grw.refl w).alloc _, Bk.new' (by simp)⟩ ?_
 rintro w1 ⟨hw1, hB1⟩
 have gA1 : HaveAll w1 (w.heap.size) 0 11 := hB1.have 0 11 (Nat.le_of_ble_eq_true rfl)
 have gC1 : cellsAt w1 (w.heap.size) 0 11 = (encW1 g c fr).toArray := hB1.cells' 0 11 _ rfl rfl
 have HB1 := Lib.hid hB1; clear hB1
 go_wp2_with fail
 (go_at_call 5; refine (validate1 (b := b) (Sl.grw H.out hw1) hv).mono ?_; rintro e w2 ⟨rfl, hg2⟩)
 have hw2 := hw1.trans hg2
 have hB2 := HB1.out.grw hg2
 have g2_7 : w2.cell? ⟨w.heap.size, 7, none⟩ = some (.slice none 0 0) := hB2.cell 7
 clear gA1 gC1
 go_wp2_with fail
 (go_at_call 166; refine (indexByKey_nil _).mono ?_; rintro e w3 ⟨v3, rfl, hg3⟩)
 have hw3 := hw2.trans hg3
 have hB3 := hB2.grw hg3
 have g3_5 : w3.cell? ⟨w.heap.size, 5, none⟩ = some (.slice (some ⟨g, 0, none⟩) 1 c) := hB3.cell 5
 have g3_6 : w3.cell? ⟨w.heap.size, 6, none⟩ = some (.slice none 0 0) := hB3.cell 6
 clear g2_7
 go_wp2_with fail
 (go_at_call 167; refine (findPairs0 _ c b _ (Sl.grw H.out hw3) hid).mono ?_; rintro e w4 ⟨rfl, hg4⟩)
 go_wp2_with fail
 refine wp_loop_rounds 1 ?_
 rw [rounds_succ]
 go_wp2_with fail
 go_ret
 exact ⟨rfl, hw3.trans hg4⟩
end
section
open Go.RowKit Go.Sort
section flow
variable {P : Program} {ops : Array Oper} {w0 : World}
def anyT (P : Program) (ops : Array Oper) (w0 : World) (T : Nat → Bool) (L : Array Bool → Act → World → Prop) : Nat → Array Bool → Act → World → Prop
 | 0, listed, a, w => (∀ j ∈ Region.ready .any ops listed, T j = true) ∧ ∀ w1, Grw w w1 → L listed a w1
 | f + 1, listed, a, w => ∀ w1, Grw w w1 → Region.ready .any ops listed ≠ [] ∧ ∀ j ∈ Region.ready .any ops listed, T j = false ∧ ∀ o, ops[j]? = some o →
     okOp P ops o (fun v w2 => Grw w0 w2 ∧ anyT P ops w0 T L f (listed.setIfInBounds j true) (a.put o.dst v) w2) a w1
theorem anyT_stab {T : Nat → Bool} {L : Array Bool → Act → World → Prop} {f : Nat} {listed : Array Bool} {a : Act} {w w1 : World} (h : anyT P ops w0 T L f listed a w) (hw : Grw w w1) : anyT P ops w0 T L f listed a w1 := by
 cases f with
 | zero => exact ⟨h.1, fun w2 h2 => h.2 w2 (hw.trans h2)⟩
 | succ f => exact fun w2 h2 => h w2 (hw.trans h2)
theorem anyT_first {T : Nat → Bool} {i : Nat} {oi : Oper} {v : Value} {L : Array Bool → Act → World → Prop} (hi : ops[i]? = some oi) (hsel : ∀ (j : Nat) (o : Oper) cs b, ops[j]? = some o → o.op ≠ .select cs b)
   (hT : ∀ t, T t = true → t < ops.size → ∃ f, waitsT ops f t i = true) (hin : T i = false) :
   ∀ (f : Nat) (listed : Array Bool) (a : Act) (w : World), Grw w0 w → Clo ops listed →
     (∀ j oj, ops[j]? = some oj → j ≠ i → listed.getD j true = false → (∀ e ∈ oj.after, Region.binds .any e = true → e.on ≠ i) → oi.apart ops oj = true) →
     i ∈ Region.ready .any ops listed → YieldsG P ops w0 oi v a →
     anyT P ops w0 T L f (listed.setIfInBounds i true) (a.put oi.dst v) w → anyT P ops w0 T L (f + 1) listed a w := by
 intro f
 induction f with
 | zero =>
   intro listed a w hw hclo hfree hr hy H w1 hw1
   have hun := (mem_ready.1 hr).1
   refine ⟨fun h => (by rw [h] at hr; cases hr), fun j hj => ?_⟩
   have hjn : T j = false := by
     rcases Bool.eq_false_or_eq_true (T j) with h | h
     rotate_left
     · exact h
     · obtain ⟨_, oj, hoj, hall⟩ := mem_ready.1 hj
       obtain ⟨ff, hff⟩ := hT j h (Array.getElem?_eq_some_iff.1 hoj).1
       exact absurd hj (waitsT_ready hclo (getD_both hun) ff j hff)
   refine ⟨hjn, fun o ho => ?_⟩
   by_cases hji : j = i
   · subst hji
     obtain rfl : oi = o := Option.some.inj (hi.symm.trans ho)
     exact hy.okOp (hw.trans hw1) fun w2 h2 => ⟨(hw.trans hw1).trans h2, anyT_stab H (hw1.trans h2)⟩
   · have := H.1 j (ready_mono hj hji)
     rw [hjn] at this; cases this
 | succ f ih =>
   intro listed a w hw hclo hfree hr hy H w1 hw1
   have hun := (mem_ready.1 hr).1
   refine ⟨fun h => (by rw [h] at hr; cases hr), fun j hj => ?_⟩
   have hjn : T j = false := by
     rcases Bool.eq_false_or_eq_true (T j) with h | h
     rotate_left
     · exact h
     · obtain ⟨_, oj, hoj, hall⟩ := mem_ready.1 hj
       obtain ⟨ff, hff⟩ := hT j h (Array.getElem?_eq_some_iff.1 hoj).1
       exact absurd hj (waitsT_ready hclo (getD_both hun) ff j hff)
   refine ⟨hjn, fun oj hoj => ?_⟩
   by_cases hji : j = i
   · subst hji
     obtain rfl : oi = oj := Option.some.inj (hi.symm.trans hoj)
     exact hy.okOp (hw.trans hw1) fun w2 h2 => ⟨(hw.trans hw1).trans h2, anyT_stab H (hw1.trans h2)⟩
   · obtain ⟨hjun, oj', hoj', hall⟩ := mem_ready.1 hj
     obtain rfl : oj' = oj := Option.some.inj (hoj'.symm.trans hoj)
     have hnot : ∀ e ∈ oj'.after, Region.binds .any e = true → e.on ≠ i := fun e he hb heq => by
       have h1 := hall e he hb
       rw [heq, getD_both hun] at h1; cases h1
     obtain ⟨a1, a2, a3⟩ := Oper.apart_spec (hfree j oj' hoj hji hjun hnot)
     have h1 := ((H w1 hw1).2 j (ready_mono hj hji)).2 oj' hoj
     have h2 : okOp P ops oj' (fun u w2 => Grw w0 w2 ∧ anyT P ops w0 T L f ((listed.setIfInBounds i true).setIfInBounds j true) ((a.put oi.dst v).put oj'.dst u) w2) a w1 := by
       unfold okOp at h1 ⊢
       rw [wanted_put oj' a oi.dst v a1, execOp_put oj' (fun cs b => hsel j oj' cs b hoj) a oi.dst v a1] at h1
       exact h1
     refine okOp_mono (fun u w2 ⟨hg, hA⟩ => ⟨hg, ?_⟩) h2
     refine ih (listed.setIfInBounds j true) (a.put oj'.dst u) w2 hg (hclo.add hj) (fun k ok hk hki hunk hno => ?_) (ready_mono hr (Ne.symm hji)) (hy.put (fun cs b => hsel i oi cs b hi) a3 u) ?_
     · refine hfree k ok hk hki ?_ hno
       by_cases hjk : j = k
       · subst hjk; exact hjun
       · rw [getD_set_ne true hjk] at hunk; exact hunk
     · rw [Array.setIfInBounds_comm _ _ hji, ← Act.put_comm a v u a2]
       exact hA
theorem wpAny_of_anyT {T : Nat → Bool} {g : Nat} {L : Array Bool → Act → World → Prop} {Q : Exit → Act → World → Prop} (hL : ∀ listed a w, L listed a w → wpAny P .any ops Q g listed a w) :
   ∀ (f : Nat) (listed : Array Bool) (a : Act) (w : World), anyT P ops w0 T L f listed a w → wpAny P .any ops Q (f + g) listed a w
 | 0, listed, a, w, h => by rw [Nat.zero_add]; exact hL _ _ _ (h.2 w (Grw.refl w))
 | f + 1, listed, a, w, h => by
   rw [show f + 1 + g = (f + g) + 1 by omega]
   obtain ⟨h1, h2⟩ := h w (Grw.refl w)
   refine ⟨fun h0 => absurd h0 h1, fun i hi => ?_⟩
   obtain ⟨_, o, ho, _⟩ := mem_ready.1 hi
   exact wpOp_of_okOp ho (fun v w' hv => wpAny_of_anyT hL f _ _ _ hv.2) ((h2 i hi).2 o ho)
def setAllB (listed : Array Bool) : List Nat → Array Bool
 | [] => listed
 | k :: ks => setAllB (listed.setIfInBounds k true) ks
def seqO (ops : Array Oper) : List Nat → Array Bool → Bool
 | [], listed => (Region.ready .any ops listed).isEmpty
 | k :: ks, listed => decide (Region.ready .any ops listed = [k]) && seqO ops ks (listed.setIfInBounds k true)
def pickO (l : List Oper) : List Nat → List Oper
 | [] => []
 | k :: ks => match l[k]? with
   | some o => o :: pickO l ks
   | none => []
theorem wpAny_of_seqO {l : List Oper} {Q : Exit → Act → World → Prop} : ∀ (ks : List Nat) (listed : Array Bool) (a : Act) (w : World), (∀ k ∈ ks, k < l.length) → seqO l.toArray ks listed = true →
   wpList P l.toArray Q (pickO l ks) a w → wpAny P .any l.toArray Q ks.length listed a w
 | [], _, _, _, _, hB, h => ⟨by simpa [seqO] using hB, h⟩
 | k :: ks, listed, a, w, hl, hB, h => by
   have hk : k < l.length := hl k (List.mem_cons_self ..)
   have h0 : l[k]? = some l[k] := List.getElem?_eq_getElem hk
   have h0' : l.toArray[k]? = some l[k] := by simpa using h0
   simp only [seqO, Bool.and_eq_true, decide_eq_true_eq] at hB
   refine ⟨fun h1 => (by rw [hB.1] at h1; cases h1), fun i hi => ?_⟩
   rw [hB.1] at hi
   have hik : i = k := by simpa using hi
   subst hik
   unfold pickO at h
   rw [h0] at h
   have hw : wpOp P l.toArray Q i (wpList P l.toArray Q (pickO l ks)) a w := by unfold wpOp; simp only [h0']; exact h
   exact wpOp_mono (fun a' w' h' => wpAny_of_seqO ks _ a' w' (fun q hq => hl q (List.mem_cons_of_mem _ hq)) hB.2 h') hw
def stepsB (ops : Array Oper) (T : Nat → Bool) : List (Bool × Nat) → Array Bool → Bool
 | [], listed => (Region.ready .any ops listed).all T
 | (true, k) :: s, listed => !T k && (Region.ready .any ops listed).contains k && Region.free .any ops listed k && ((List.range ops.size).all fun t => !T t || waitsT ops ops.size t k) && stepsB ops T s (listed.setIfInBounds k true)
 | (false, m) :: s, listed => decide (Region.ready .any ops listed = [m]) && !T m && stepsB ops T s (listed.setIfInBounds m true)
def stepsL (P : Program) (l : List Oper) (w0 : World) (Q : Exit → Act → World → Prop) (tl : List Nat) : List (Bool × Nat) → Act → World → Prop
 | [], a, w1 => ∀ w2, Grw w1 w2 → wpList P l.toArray Q (pickO l tl) a w2
 | (true, k) :: s, a, w1 => ∃ o, l[k]? = some o ∧ (if Region.wanted o (yielded l.toArray a.tmps) then ∃ v, (∀ p : GrownBy, qAt P o a (grow (wd w0 p.n) p.os) v) ∧ stepsL P l w0 Q tl s (a.put o.dst v) w1 else stepsL P l w0 Q tl s (a.put o.dst undef) w1)
 | (false, m) :: s, a, w1 => ∃ o, l[m]? = some o ∧ ∀ w2, Grw w1 w2 → ∀ K : Value → World → Prop, (∀ v w3, Grw w0 w3 → stepsL P l w0 Q tl s (a.put o.dst v) w3 → K v w3) → okOp P l.toArray o K a w2
theorem st_mid {l : List Oper} {Q : Exit → Act → World → Prop} {tl : List Nat} {s : List (Bool × Nat)} {m : Nat} {a : Act} {w1 : World} {o : Oper} (ho : l[m]? = some o)
   (h : ∀ w2, Grw w1 w2 → ∀ K : Value → World → Prop, (∀ v w3, Grw w0 w3 → stepsL P l w0 Q tl s (a.put o.dst v) w3 → K v w3) → okOp P l.toArray o K a w2) : stepsL P l w0 Q tl ((false, m) :: s) a w1 := ⟨o, ho, h⟩
theorem st_det {l : List Oper} {Q : Exit → Act → World → Prop} {tl : List Nat} {s : List (Bool × Nat)} {k : Nat} {a : Act} {w1 : World} {o : Oper} (ho : l[k]? = some o)
   (h : ∀ K : Act → Prop, (∀ a, stepsL P l w0 Q tl s a w1 → K a) → if Region.wanted o (yielded l.toArray a.tmps) then ∃ v, (∀ p : GrownBy, qAt P o a (grow (wd w0 p.n) p.os) v) ∧ K (a.put o.dst v) else K (a.put o.dst undef)) : stepsL P l w0 Q tl ((true, k) :: s) a w1 := ⟨o, ho, h _ fun _ h => h⟩
theorem st_nil {l : List Oper} {Q : Exit → Act → World → Prop} {tl : List Nat} {a : Act} {w1 : World} (h : ∀ w2, Grw w1 w2 → wpList P l.toArray Q (pickO l tl) a w2) : stepsL P l w0 Q tl [] a w1 := h
theorem anyT_steps {T : Nat → Bool} {l : List Oper} {Q : Exit → Act → World → Prop} {tl : List Nat} {fin : Array Bool} (hsel : Region.noSelect l.toArray = true) : ∀ (s : List (Bool × Nat)) (listed : Array Bool) (a : Act) (w1 : World), Grw w0 w1 → Clo l.toArray listed →
   stepsB l.toArray T s listed = true → setAllB listed (s.map (·.2)) = fin → stepsL P l w0 Q tl s a w1 →
   anyT P l.toArray w0 T (fun listed' a' w' => listed' = fin ∧ wpList P l.toArray Q (pickO l tl) a' w') s.length listed a w1
 | [], listed, a, w1, _, _, hB, hf, h => ⟨fun j hj => List.all_eq_true.1 hB j hj, fun w2 h2 => ⟨hf, h w2 h2⟩⟩
 | (true, k) :: s, listed, a, w1, hw, hclo, hB, hf, ⟨o, ho, h⟩ => by
   have h0 : l.toArray[k]? = some o := by simpa using ho
   simp only [stepsB, Bool.and_eq_true, Bool.not_eq_true'] at hB
   obtain ⟨⟨⟨⟨hkn, hr⟩, hfr⟩, ht⟩, hB'⟩ := hB
   have hT : ∀ t, T t = true → t < l.toArray.size → ∃ f, waitsT l.toArray f t k = true := fun t hnt hot => by
     have h1 := List.all_eq_true.1 ht t (List.mem_range.2 hot)
     simp only [Bool.or_eq_true, Bool.not_eq_true'] at h1
     rcases h1 with h1 | h1
     · rw [hnt] at h1; cases h1
     · exact ⟨_, h1⟩
   have step : ∃ v, YieldsG P l.toArray w0 o v a ∧ stepsL P l w0 Q tl s (a.put o.dst v) w1 := by
     split at h
     · rename_i hw'
       obtain ⟨v, h1, h2⟩ := h
       exact ⟨v, .inl ⟨hw', fun w2 ⟨p, hp⟩ => hp ▸ h1 p⟩, h2⟩
     · rename_i hw'
       exact ⟨undef, .inr ⟨by simpa using hw', rfl⟩, h⟩
   obtain ⟨v, hy, hK⟩ := step
   have hr' : k ∈ Region.ready .any l.toArray listed := by simpa using hr
   exact anyT_first h0 (Region.noSelect_spec hsel) hT hkn s.length _ a w1 hw hclo (Region.free_spec h0 hfr) hr' hy (anyT_steps hsel s _ _ w1 hw (hclo.add hr') hB' hf hK)
 | (false, m) :: s, listed, a, w1, hw, hclo, hB, hf, ⟨o, ho, h⟩ => by
   simp only [stepsB, Bool.and_eq_true, decide_eq_true_eq, Bool.not_eq_true'] at hB
   obtain ⟨⟨hr, ht⟩, hB'⟩ := hB
   intro w2 hw2
   refine ⟨by rw [hr]; simp, fun j hj => ?_⟩
   have hj' := hj
   rw [hr] at hj
   obtain rfl : j = m := by simpa using hj
   refine ⟨ht, fun o' ho' => ?_⟩
   obtain rfl : o' = o := by
     have : l[j]? = some o' := by simpa using ho'
     exact Option.some.inj (this.symm.trans ho)
   exact h w2 hw2 _ fun v w3 h1 h2 => ⟨h1, anyT_steps hsel s _ _ w3 h1 (hclo.add hj') hB' hf h2⟩
theorem wp_region_steps {id : Nat} {Q : Exit → Act → World → Prop} {a : Act} {w : World} {l : List Oper} (s : List (Bool × Nat)) (tl : List Nat) (hm : P.follows .mixedOrders = true)
   (hB : (Region.noSelect l.toArray && stepsB l.toArray (fun j => tl.contains j) s (Array.replicate l.toArray.size false) &&
     seqO l.toArray tl (setAllB (Array.replicate l.toArray.size false) (s.map (·.2))) && (s.length + tl.length == l.length) && tl.all (fun k => decide (k < l.length))) = true)
   (h : ∀ w1, Grw w w1 → stepsL P l w Q tl s a w1) :
   (Code.region id l.toArray true).wp P Q a w := by
 simp only [Bool.and_eq_true, beq_iff_eq] at hB
 obtain ⟨⟨⟨⟨hsel, hst⟩, hseq⟩, hlen⟩, htl⟩ := hB
 have hsz : l.toArray.size = l.length := by simp
 refine wp_region_any hm ?_
 have hg := (Grw.refl w).drewN 1
 have H := anyT_steps (P := P) (w0 := w) (T := fun j => tl.contains j) (l := l) (Q := Q) (tl := tl) hsel s (Array.replicate l.toArray.size false) a ({ w with drawn := w.drawn + 1 }) hg (clo_none _ rfl) hst rfl (h _ hg)
 have H2 := wpAny_of_anyT (w0 := w) (Q := Q) (g := tl.length) (fun listed a' w' ⟨e, hL⟩ => by
   subst e
   exact wpAny_of_seqO tl _ a' w' (fun k hk => by simpa using List.all_eq_true.1 htl k hk) hseq hL) _ _ _ _ H
 rw [hlen, ← hsz] at H2
 exact H2
end flow
end
section
open Go.RowKit Go.Sort
attribute [local go_sem] qAt qUpon okOp okUpon cell_in_grow frozen_in_grow encFixV_eq encBodyV_eq encJointV_eq encPkV_eq encPtV_eq encCtV_eq encMfV_eq encWorldV_eq encObV_eq
attribute [local go_sem ↓] loadAt31 storeAt31 loadAt99 storeAt99 loadAt44 storeAt44 loadAt58 storeAt58 loadAt70 storeAt70 loadAt25 storeAt25 loadAt94 storeAt94 loadAt143 storeAt143
attribute [local go_sem] run_bl31 run_bs31 run_bl99 run_bs99 run_bl44 run_bs44 run_bl58 run_bs58 run_bl70 run_bs70 run_bl25 run_bs25 run_bl94 run_bs94 run_bl143 run_bs143 there_new there_alloc have_in_grow cells_in_grow oc_int oc_bool oc_slice oc_all oc_cons oc_nil List.size_toArray List.length_cons List.length_nil
attribute [local go_sem high] eqR23 eqR94
def bodyClone0F (b : ObV) : Int × Int × Int × Int × Int × Int × Int × Int × Int × Int × Int × Int × Int × Int × Bool × Bool × Bool × Bool × Int := (b.id, b.kd, b.px, b.py, b.an, b.vx, b.vy, b.av, b.fx, b.fy, b.tq, b.ld, b.ad, b.gs, b.bu, b.fr, b.ns, b.sl, b.idl)
theorem bodyClone0 (b : ObV) (w : World) :
   Calls Tryz.prog 57 #[.agg (encObV b).toArray] w fun e w' => e = .returned (.agg #[.int .i64 ((bodyClone0F b).1), .int .i64 ((bodyClone0F b).2.1), .int .i64 ((bodyClone0F b).2.2.1), .int .i64 ((bodyClone0F b).2.2.2.1), .int .i64 ((bodyClone0F b).2.2.2.2.1), .int .i64 ((bodyClone0F b).2.2.2.2.2.1), .int .i64 ((bodyClone0F b).2.2.2.2.2.2.1), .int .i64 ((bodyClone0F b).2.2.2.2.2.2.2.1), .int .i64 ((bodyClone0F b).2.2.2.2.2.2.2.2.1), .int .i64 ((bodyClone0F b).2.2.2.2.2.2.2.2.2.1), .int .i64 ((bodyClone0F b).2.2.2.2.2.2.2.2.2.2.1), .int .i64 ((bodyClone0F b).2.2.2.2.2.2.2.2.2.2.2.1), .int .i64 ((bodyClone0F b).2.2.2.2.2.2.2.2.2.2.2.2.1), .int .i64 ((bodyClone0F b).2.2.2.2.2.2.2.2.2.2.2.2.2.1), .bool ((bodyClone0F b).2.2.2.2.2.2.2.2.2.2.2.2.2.2.1), .bool ((bodyClone0F b).2.2.2.2.2.2.2.2.2.2.2.2.2.2.2.1), .bool ((bodyClone0F b).2.2.2.2.2.2.2.2.2.2.2.2.2.2.2.2.1), .bool ((bodyClone0F b).2.2.2.2.2.2.2.2.2.2.2.2.2.2.2.2.2.1), .int .i64 ((bodyClone0F b).2.2.2.2.2.2.2.2.2.2.2.2.2.2.2.2.2.2), .slice (none) (0) (0)]) ∧ Grw w w' := by
 go_enter Tryz.func57, Tryz.ntmps57
 go_upto_region 2 with (fail)
 refine wp_gen (fun xw => Grw w xw ∧ Bk xw (w.heap.size) 44 (encObV b).toArray ∧ Bk xw (w.heap.size + 1) 44 #[.int .i64 (0), .int .i64 (0), .int .i64 (0), .int .i64 (0), .int .i64 (0), .int .i64 (0), .int .i64 (0), .int .i64 (0), .int .i64 (0), .int .i64 (0), .int .i64 (0), .int .i64 (0), .int .i64 (0), .int .i64 (0), .bool (false), .bool (false), .bool (false), .bool (false), .int .i64 (0), .slice (none) (0) (0)]) ⟨(((Grw.refl w)).alloc _).alloc _, ((Bk.new' (by simp))).alloc _, (Bk.new' (by simp))⟩ ?_
 rintro w1 ⟨hw1, hB1_0, hB1_1⟩
 have g1_0_19 : w1.cell? ⟨w.heap.size, 19, none⟩ = some (.slice (none) (0) (0)) := hB1_0.cell 19
 have g1_0_f := hB1_0.frozen
 have g1_0_l := hB1_0.lt
 have g1_1_l := hB1_1.lt
 have HB1 := Lib.hid (show _ ∧ _ from ⟨hB1_0, hB1_1⟩); clear hB1_0 hB1_1
 go_wp2_with fail
 refine wp_loop_rounds 1 ?_
 rw [rounds_succ]
 obtain ⟨b0, b1⟩ := HB1.out
 go_upto_region 9 with (fail)
 refine wp_gen (fun xw => Grw w xw ∧ Bk xw (w.heap.size) 44 (encObV b).toArray ∧ Bk xw (w.heap.size + 1) 44 #[.int .i64 (0), .int .i64 (0), .int .i64 (0), .int .i64 (0), .int .i64 (0), .int .i64 (0), .int .i64 (0), .int .i64 (0), .int .i64 (0), .int .i64 (0), .int .i64 (0), .int .i64 (0), .int .i64 (0), .int .i64 (0), .bool (false), .bool (false), .bool (false), .bool (false), .int .i64 (0), .slice (none) (0) (0)]) ⟨(hw1).setAt (by omega) _, (b0).set' rfl, (b1).far (by omega) _⟩ ?_
 rintro w2 ⟨hw2, hB2_0, hB2_1⟩
 have gA2_0_0_20 : HaveAll w2 (w.heap.size) 0 20 := hB2_0.have 0 20 (Nat.le_of_ble_eq_true rfl)
 have gC2_0_0_20 : cellsAt w2 (w.heap.size) 0 20 = (encObV b).toArray := hB2_0.cells' 0 20 _ rfl rfl
 have g2_0_l := hB2_0.lt
 have gT2_1 : There w2 (w.heap.size + 1) 0 20 := hB2_1.there 0 20 (Nat.le_of_ble_eq_true rfl)
 have g2_1_l := hB2_1.lt
 have HB2 := Lib.hid (show _ ∧ _ from ⟨hB2_0, hB2_1⟩); clear hB2_0 hB2_1
 clear g1_0_19 g1_0_f g1_0_l g1_1_l b0 b1 HB1 hw1
 go_wp2_with fail
 have hF : bodyClone0F b = (b.id, b.kd, b.px, b.py, b.an, b.vx, b.vy, b.av, b.fx, b.fy, b.tq, b.ld, b.ad, b.gs, b.bu, b.fr, b.ns, b.sl, b.idl) := by unfold bodyClone0F; first | rfl | (simp only [cond_true, cond_false]; done) | (simp only [cond_true, cond_false]; rfl) | simp []
 obtain ⟨b0, b1⟩ := HB2.out
 have hK44 : Bk _ (w.heap.size + 1) 44 #[.int .i64 (b.id), .int .i64 (b.kd), .int .i64 (b.px), .int .i64 (b.py), .int .i64 (b.an), .int .i64 (b.vx), .int .i64 (b.vy), .int .i64 (b.av), .int .i64 (b.fx), .int .i64 (b.fy), .int .i64 (b.tq), .int .i64 (b.ld), .int .i64 (b.ad), .int .i64 (b.gs), .bool (b.bu), .bool (b.fr), .bool (b.ns), .bool (b.sl), .int .i64 (b.idl), .slice (none) (0) (0)] := (b1).setAll' (l := [.int .i64 (b.id), .int .i64 (b.kd), .int .i64 (b.px), .int .i64 (b.py), .int .i64 (b.an), .int .i64 (b.vx), .int .i64 (b.vy), .int .i64 (b.av), .int .i64 (b.fx), .int .i64 (b.fy), .int .i64 (b.tq), .int .i64 (b.ld), .int .i64 (b.ad), .int .i64 (b.gs), .bool (b.bu), .bool (b.fr), .bool (b.ns), .bool (b.sl), .int .i64 (b.idl), .slice (none) (0) (0)]) rfl rfl
 refine bodyPost_ret (v := .agg #[.int .i64 (b.id), .int .i64 (b.kd), .int .i64 (b.px), .int .i64 (b.py), .int .i64 (b.an), .int .i64 (b.vx), .int .i64 (b.vy), .int .i64 (b.av), .int .i64 (b.fx), .int .i64 (b.fy), .int .i64 (b.tq), .int .i64 (b.ld), .int .i64 (b.ad), .int .i64 (b.gs), .bool (b.bu), .bool (b.fr), .bool (b.ns), .bool (b.sl), .int .i64 (b.idl), .slice (none) (0) (0)]) (results_cell_row Tryz.results57 _ _ _ _ _ _ _ rfl hK44 Tryz.underlying44 rfl (by kernel_rfl)) rfl ⟨by rw [hF], ?_⟩
 exact (hw2).setCells (by omega) _
theorem bodyClone0_x (b : ObV) (w : World) : Calls Tryz.prog 57 #[.agg (encObV b).toArray] w fun e w' => e = .returned (.agg (encObV b).toArray) ∧ Grw w w' := bodyClone0 b w
end
section
open Go.RowKit Go.Sort
attribute [local go_sem] qAt qUpon okOp okUpon cell_in_grow frozen_in_grow encFixV_eq encBodyV_eq encJointV_eq encPkV_eq encPtV_eq encCtV_eq encMfV_eq encWorldV_eq
attribute [local go_sem ↓] loadAt31 storeAt31 loadAt99 storeAt99 loadAt44 storeAt44 loadAt58 storeAt58 loadAt70 storeAt70 loadAt25 storeAt25 loadAt94 storeAt94 loadAt143 storeAt143
attribute [local go_sem] run_bl31 run_bs31 run_bl99 run_bs99 run_bl44 run_bs44 run_bl58 run_bs58 run_bl70 run_bs70 run_bl25 run_bs25 run_bl94 run_bs94 run_bl143 run_bs143 there_new there_alloc have_in_grow cells_in_grow oc_int oc_bool oc_slice oc_all oc_cons oc_nil List.size_toArray List.length_cons List.length_nil
attribute [local go_sem high] eqR23 eqR94
attribute [local go_sem] encObV_eq encW1_eq
def O1 (w : World) (g : Nat) (b : ObV) : Prop := Pk w g 44 (encObV b).toArray
theorem O1.b1 {w : World} {g : Nat} {b : ObV} (h : O1 w g b) : B1 w g b := by
 obtain ⟨rest, h⟩ := h
 intro i x hx
 match i, hx with
 | 0, hx =>
   cases hx
   refine ⟨g, 0, rfl, h.lt, fun j u hu => ?_⟩
   have hj : j < 20 := (List.getElem?_eq_some_iff.1 hu).1
   rw [show 0 + 0 * 20 + j = j by omega, h.cell j, Array.getElem?_append_left (by simp [encObV]; omega)]
   rw [encOb_body] at hu
   simpa using hu
theorem O1.grw {w w' : World} {g : Nat} {b : ObV} (h : O1 w g b) (hg : Grw w w') : O1 w' g b := Pk.grw h hg
theorem Pk.lt {w : World} {b t : Nat} {cs : Array Value} (h : Pk w b t cs) : b < w.heap.size := h.elim fun _ h => h.lt
theorem Pk.far {w : World} {b t : Nat} {cs : Array Value} (h : Pk w b t cs) {p i : Nat} (hp : b ≠ p) (u : Value) : Pk (w.setCell ⟨p, i, none⟩ u) b t cs := h.imp fun _ h => h.far hp u
theorem Pk.farCells {w : World} {b t : Nat} {cs : Array Value} (h : Pk w b t cs) {p o : Nat} (hp : b ≠ p) (l : List Value) : Pk (w.setCells p o l) b t cs := h.imp fun _ h => h.farCells hp l
theorem Pk.there {w : World} {b t : Nat} {cs : Array Value} (h : Pk w b t cs) {o n : Nat} (hn : o + n ≤ cs.size) : There w b o n := by
 obtain ⟨rest, h⟩ := h
 exact h.there o n (by simp; omega)
theorem Pk.have {w : World} {b t : Nat} {cs : Array Value} (h : Pk w b t cs) {o n : Nat} (hn : o + n ≤ cs.size) : HaveAll w b o n := by
 obtain ⟨rest, h⟩ := h
 exact h.have o n (by simp; omega)
theorem Pk.cell {w : World} {b t : Nat} {cs : Array Value} (h : Pk w b t cs) {j : Nat} {v : Value} (hv : cs[j]? = some v) : w.cell? ⟨b, j, none⟩ = some v := by
 obtain ⟨rest, h⟩ := h
 rw [h.cell j, Array.getElem?_append_left (Array.getElem?_eq_some_iff.1 hv).1]; exact hv
theorem Pk.setAll {w : World} {b t : Nat} {cs cs' : Array Value} {l : List Value} (h : Pk w b t cs) (hs : l.length = cs.size) (e : l.toArray = cs') : Pk (w.setCells b 0 l) b t cs' := by
 obtain ⟨rest, h⟩ := h
 obtain ⟨cs2, h1, h2, h3⟩ := Bk.setCells l 0 h
 refine ⟨rest, ?_⟩
 have e2 : cs2 = cs' ++ rest := by
   subst e
   apply Array.ext_getElem?
   intro i
   rw [h3 i]
   simp only [Array.size_append]
   by_cases hi : i < cs.size
   · rw [if_pos ⟨by omega, by omega, by omega⟩, Array.getElem?_append_left (by simp; omega)]; simp
   · rw [if_neg (by omega), Array.getElem?_append_right (by omega), Array.getElem?_append_right (by simp; omega)]
     simp [hs]
 exact e2 ▸ h1
theorem Pk.cells {w : World} {b t : Nat} {cs : Array Value} {n : Nat} (h : Pk w b t cs) (hn : cs.size = n) : cellsAt w b 0 n = cs := by
 subst hn
 apply Array.ext_getElem?
 intro i
 unfold cellsAt
 rw [List.getElem?_toArray, List.getElem?_map]
 by_cases hi : i < cs.size
 · rw [List.getElem?_range hi, Option.map_some, Nat.zero_add, h.cell (Array.getElem?_eq_getElem hi), Array.getElem?_eq_getElem hi]; rfl
 · rw [Array.getElem?_eq_none (by omega), List.getElem?_eq_none (by simp; omega)]; rfl
theorem clone1_bodies {g c : Nat} {b : ObV} {w : World} (h : B1 w g b) :
   Calls Tryz.prog 53 #[.slice (some ⟨g, 0, none⟩) 1 c] w fun e w' => ∃ g' c', e = .returned (.slice (some ⟨g', 0, none⟩) 1 c') ∧ Grw w w' ∧ w.heap.size ≤ g' ∧ O1 w' g' b :=
 (cloneBodies_any ⟨g, 0, none⟩ c [b.body] w h (show 1 * 152 ≤ 140737488355328 by decide) (by simp)).mono fun e w' ⟨v, he, hg, ho⟩ => by
   obtain ⟨g', c', hv, h1, h2⟩ := OwnL.pk (enc := encBodyV) (size := 20) (fun _ => rfl) ho (by simp)
   exact ⟨g', c', by rw [he, hv]; rfl, hg, h1, by unfold O1; simpa [encOb_body] using h2⟩
theorem clone1 {g c : Nat} {b : ObV} {fr : Int} {w : World} (h : B1 w g b) :
   Calls Tryz.prog 24 #[.agg (encW1 g c fr).toArray] w fun e w' => ∃ g' c', e = .returned (.agg (encW1 g' c' fr).toArray) ∧ Grw w w' ∧ w.heap.size ≤ g' ∧ O1 w' g' b := by
 have H := Lib.hid h; clear h
 go_enter Tryz.func24, Tryz.ntmps24
 go_upto_region 1 with (fail)
 refine wp_gen (fun xw => Grw w xw ∧ Bk xw w.heap.size 31 (encW1 g c fr).toArray ∧ Bk xw (w.heap.size + 1) 31 (encWorldV WorldV.d).toArray) ⟨((Grw.refl w).alloc _).alloc _, (Bk.new' (by simp)).alloc _, Bk.new' (by simp)⟩ ?_
 rintro w1 ⟨hw1, hB1, hR1⟩
 have g1_5 : w1.cell? ⟨w.heap.size, 5, none⟩ = some (.slice (some ⟨g, 0, none⟩) 1 c) := hB1.cell 5
 have g1_6 : w1.cell? ⟨w.heap.size, 6, none⟩ = some (.slice none 0 0) := hB1.cell 6
 have g1_7 : w1.cell? ⟨w.heap.size, 7, none⟩ = some (.slice none 0 0) := hB1.cell 7
 have g1_8 : w1.cell? ⟨w.heap.size, 8, none⟩ = some (.slice none 0 0) := hB1.cell 8
 have hl1 := hB1.lt; have hl2 := hR1.lt
 have HB1 := Lib.hid hB1; have HR1 := Lib.hid hR1; clear hB1 hR1
 refine wp_region_steps [(true, 0), (true, 1), (true, 3), (true, 4), (true, 6), (true, 7), (true, 9), (true, 10), (false, 2), (true, 12), (false, 5), (false, 8), (false, 11)] [13, 14, 15, 16, 17, 18, 19] (by kernel_rfl) (by kernel_rfl) ?_
 intro w2 hw2
 iterate 8 (refine st_det rfl (fun K hK => ?_); go_simp; refine hK _ ?_; clear hK K)
 refine st_mid rfl (fun w3 hw3 K hK => ?_)
 go_simp
 refine (clone1_bodies (Sl.grw H.out (by (repeat with_reducible first | exact .refl _ | assumption | refine .setAt ?_ (by first | omega | simp <;> omega) _ | refine .setCells ?_ (by first | omega | simp <;> omega) _ | refine .alloc ?_ _ | refine .drewN ?_ _ | refine .drew ?_ | refine .trans ?_ (by assumption))))).mono ?_
 rintro e w4 ⟨g', c', rfl, hg4, hgg, hO4⟩
 refine ⟨_, rfl, hK _ _ (by (repeat with_reducible first | exact .refl _ | assumption | refine .setAt ?_ (by first | omega | simp <;> omega) _ | refine .setCells ?_ (by first | omega | simp <;> omega) _ | refine .alloc ?_ _ | refine .drewN ?_ _ | refine .drew ?_ | refine .trans ?_ (by assumption))) ?_⟩; clear hK K
 refine st_det rfl (fun K hK => ?_); go_simp; refine hK _ ?_; clear hK K
 refine st_mid rfl (fun w5 hw5 K hK => ?_)
 go_simp
 refine (cloneNil_54 _).mono ?_
 rintro e w5' ⟨rfl, rfl⟩
 refine ⟨_, rfl, hK _ _ (by (repeat with_reducible first | exact .refl _ | assumption | refine .setAt ?_ (by first | omega | simp <;> omega) _ | refine .setCells ?_ (by first | omega | simp <;> omega) _ | refine .alloc ?_ _ | refine .drewN ?_ _ | refine .drew ?_ | refine .trans ?_ (by assumption))) ?_⟩; clear hK K
 refine st_mid rfl (fun w6 hw6 K hK => ?_)
 go_simp
 refine (cloneNil_55 _).mono ?_
 rintro e w6' ⟨rfl, rfl⟩
 refine ⟨_, rfl, hK _ _ (by (repeat with_reducible first | exact .refl _ | assumption | refine .setAt ?_ (by first | omega | simp <;> omega) _ | refine .setCells ?_ (by first | omega | simp <;> omega) _ | refine .alloc ?_ _ | refine .drewN ?_ _ | refine .drew ?_ | refine .trans ?_ (by assumption))) ?_⟩; clear hK K
 refine st_mid rfl (fun w7 hw7 K hK => ?_)
 go_simp
 refine (cloneNil_56 _).mono ?_
 rintro e w7' ⟨rfl, rfl⟩
 refine ⟨_, rfl, hK _ _ (by (repeat with_reducible first | exact .refl _ | assumption | refine .setAt ?_ (by first | omega | simp <;> omega) _ | refine .setCells ?_ (by first | omega | simp <;> omega) _ | refine .alloc ?_ _ | refine .drewN ?_ _ | refine .drew ?_ | refine .trans ?_ (by assumption))) ?_⟩; clear hK K
 refine st_nil (fun w8 hz8 => ?_)
 simp only [pickO, List.getElem?_cons_succ, List.getElem?_cons_zero]
 have hg48 : Grw w4 w8 := ((hw5.trans hw6).trans hw7).trans hz8
 have hg13 : Grw w1 w3 := hw2.trans hw3
 have hg18 : Grw w1 w8 := (hg13.trans hg4).trans hg48
 have hz3 := hg13.size
 have hB8 := HB1.out.grw hg18
 have hR8 := HR1.out.grw hg18
 have hO8 := hO4.grw hg48
 have hw8 := hw1.trans hg18
 have c5 : w8.cell? ⟨w.heap.size, 5, none⟩ = some (.slice (some ⟨g, 0, none⟩) 1 c) := hB8.cell 5
 have c6 : w8.cell? ⟨w.heap.size, 6, none⟩ = some (.slice none 0 0) := hB8.cell 6
 have c7 : w8.cell? ⟨w.heap.size, 7, none⟩ = some (.slice none 0 0) := hB8.cell 7
 have c8 : w8.cell? ⟨w.heap.size, 8, none⟩ = some (.slice none 0 0) := hB8.cell 8
 have cf := hB8.frozen
 have hl8 := hB8.lt
 clear hz8 HB1 HR1 hO4 hg18 hg48 hg13 hg4 hw2 hw3 hw5 hw6 hw7 g1_5 g1_6 g1_7 g1_8
 go_upto_region 2 with (fail)
 refine wp_gen (fun xw => Grw w xw ∧ Bk xw w.heap.size 31 #[.int .i64 8192, .int .i64 0, .int .i64 (-65536), .int .i64 1, .int .i64 0, .slice (some ⟨g', 0, none⟩) 1 c', .slice none 0 0, .slice none 0 0, .slice none 0 0, .int .i64 2, .int .i64 fr] ∧ Bk xw (w.heap.size + 1) 31 (encWorldV WorldV.d).toArray ∧ O1 xw g' b) ⟨(((hw8.setAt (Nat.le_refl _) _).setAt (Nat.le_refl _) _).setAt (Nat.le_refl _) _).setAt (Nat.le_refl _) _, (((hB8.set 5 (.slice (some ⟨g', 0, none⟩) 1 c')).set 6 (.slice none 0 0)).set 7 (.slice none 0 0)).set 8 (.slice none 0 0), (((hR8.far (by omega) _).far (by omega) _).far (by omega) _).far (by omega) _, (((Pk.far hO8 (by omega) _).far (by omega) _).far (by omega) _).far (by omega) _⟩ ?_
 clear c5 c6 c7 c8 cf hB8 hR8 hO8 hw8 hw1
 rintro w9 ⟨hw9, hB9', hR9, hO9⟩
 have hB9 : Bk w9 w.heap.size 31 (encW1 g' c' fr).toArray := hB9'
 clear hB9'
 have c5 : w9.cell? ⟨w.heap.size, 5, none⟩ = some (.slice (some ⟨g', 0, none⟩) 1 c') := hB9.cell 5
 have gA : HaveAll w9 g' 0 20 := Pk.have hO9 (Nat.le_refl _)
 have gC : cellsAt w9 g' 0 20 = (encObV b).toArray := Pk.cells hO9 rfl
 have hl9 := hB9.lt; have hm9 := hR9.lt; have hn9 := Pk.lt hO9
 go_wp2_with fail
 refine wp_loop_rounds 2 ?_
 rw [rounds_succ]
 go_upto_region 5 with (fail)
 refine wp_gen (fun xw => Grw w xw ∧ Bk xw w.heap.size 31 (encW1 g' c' fr).toArray ∧ Bk xw (w.heap.size + 1) 31 (encWorldV WorldV.d).toArray ∧ O1 xw g' b ∧ Bk xw w9.heap.size 44 (encObV b).toArray) ⟨(hw9.alloc _).setCells (by omega) _, (hB9.alloc _).farCells (by omega) _, (hR9.alloc _).farCells (by omega) _, Pk.farCells (O1.grw hO9 ((Grw.refl w9).alloc _)) (by omega) _, (Bk.new' (by simp)).setAll' rfl rfl⟩ ?_
 clear c5 gA gC hB9 hR9 hO9 hw9
 rintro w10 ⟨hw10, hB10, hR10, hO10, hX10⟩
 have c5 : w10.cell? ⟨w.heap.size, 5, none⟩ = some (.slice (some ⟨g', 0, none⟩) 1 c') := hB10.cell 5
 have gA : HaveAll w10 w9.heap.size 0 20 := hX10.have 0 20 (Nat.le_of_ble_eq_true rfl)
 have gC : cellsAt w10 w9.heap.size 0 20 = (encObV b).toArray := hX10.cells' 0 20 _ rfl rfl
 have hl10 := hB10.lt; have hm10 := hX10.lt
 have HB10 := Lib.hid hB10; have HR10 := Lib.hid hR10; have HO10 := Lib.hid hO10
 clear hB10 hR10 hO10 hX10
 refine wp_region_flowA 6 (by kernel_rfl) (by kernel_rfl) ?_
 simp only [tD]
 iterate 4 (refine wpQ_step (fun K hK => ?_); go_simp; refine hK _ ?_; clear hK K)
 refine wpQ_step (fun K hK => ?_); go_simp; apply Exists.intro; refine ⟨fun _ => ?_, hK _ ?_⟩; (go_at_call 57; exact (bodyClone0_x b _)); clear hK K
 iterate 1 (refine wpQ_step (fun K hK => ?_); go_simp; refine hK _ ?_; clear hK K)
 refine wpQ_nil ?_
 intro w11 hg11
 have hB11 := HB10.out.grw hg11; have hR11 := HR10.out.grw hg11; have hO11 := O1.grw HO10.out hg11
 have hT : There w11 g' 0 20 := Pk.there hO11 (Nat.le_refl _)
 have hw11 := hw10.trans hg11
 have hn11 := Pk.lt hO11
 clear c5 gA gC HB10 HR10 HO10 hg11 hw10
 go_upto_region 6 with (fail)
 refine wp_gen (fun xw => Grw w xw ∧ Bk xw w.heap.size 31 (encW1 g' c' fr).toArray ∧ Bk xw (w.heap.size + 1) 31 (encWorldV WorldV.d).toArray ∧ O1 xw g' b) ⟨hw11.setCells (by omega) _, hB11.farCells (by omega) _, hR11.farCells (by omega) _, Pk.setAll hO11 rfl rfl⟩ ?_
 clear hT hB11 hR11 hO11 hw11
 rintro w12 ⟨hw12, hB12, hR12, hO12⟩
 have c7 : w12.cell? ⟨w.heap.size, 7, none⟩ = some (.slice none 0 0) := hB12.cell 7
 have gA : HaveAll w12 w.heap.size 0 11 := hB12.have 0 11 (Nat.le_of_ble_eq_true rfl)
 have gC : cellsAt w12 w.heap.size 0 11 = (encW1 g' c' fr).toArray := hB12.cells' 0 11 _ rfl rfl
 have gT : There w12 (w.heap.size + 1) 0 11 := hR12.there 0 11 (Nat.le_of_ble_eq_true rfl)
 have hl12 := hB12.lt
 go_wp2_with fail
 rw [rounds_succ]
 go_wp2_with fail
 refine wp_loop_rounds 1 ?_
 rw [rounds_succ]
 go_wp2_with fail
 have hK : Bk (w12.setCells (w.heap.size + 1) 0 [.int .i64 8192, .int .i64 0, .int .i64 (-65536), .int .i64 1, .int .i64 0, .slice (some ⟨g', 0, none⟩) 1 c', .slice none 0 0, .slice none 0 0, .slice none 0 0, .int .i64 2, .int .i64 fr]) (w.heap.size + 1) 31 #[.int .i64 8192, .int .i64 0, .int .i64 (-65536), .int .i64 1, .int .i64 0, .slice (some ⟨g', 0, none⟩) 1 c', .slice none 0 0, .slice none 0 0, .slice none 0 0, .int .i64 2, .int .i64 fr] := hR12.setAll' rfl rfl
 refine bodyPost_ret (v := .agg #[.int .i64 8192, .int .i64 0, .int .i64 (-65536), .int .i64 1, .int .i64 0, .slice (some ⟨g', 0, none⟩) 1 c', .slice none 0 0, .slice none 0 0, .slice none 0 0, .int .i64 2, .int .i64 fr]) (results_cell_row Tryz.results24 _ _ _ _ _ _ _ rfl hK Tryz.underlying31 rfl (by kernel_rfl)) rfl ?_
 exact ⟨g', c', rfl, hw12.setCells (by omega) _, by omega, Pk.farCells hO12 (by omega) _⟩
theorem root1 (g c : Nat) (w : World) (h : Pk w g 3 #[.int .i64 0]) : Calls Tryz.prog 173 #[.slice (some ⟨g, 0, none⟩) 1 c, .int .i64 0] w fun e w' => e = .returned (.int .i64 0) ∧ w = w' := by
 have g0 : w.cell? ⟨g, 0, none⟩ = some (.int .i64 0) := h.cell rfl
 go_enter Tryz.func173, Tryz.ntmps173
 go_wp2_with fail
 refine wp_loop_rounds 1 ?_
 rw [rounds_succ]
 go_wp2_with fail
 go_ret
 exact ⟨rfl, rfl⟩
theorem mk235 (w : World) : (Instr.makeSlice 235 (.int .i64 1) (.int .i64 1)).run Tryz.prog w = .ok (.slice (some ⟨w.heap.size, 0, none⟩) 1 1) (w.alloc (.cells #[.int .i64 0] 3)) := by kernel_rfl
theorem connect1 {g c : Nat} {b : ObV} {fr : Int} {w : World} (h : B1 w g b) :
   Calls Tryz.prog 172 #[.agg (encW1 g c fr).toArray] w fun e w' => ∃ g', e = .returned (.slice (some ⟨g', 0, none⟩) 1 1) ∧ Grw w w' ∧ Pk w' g' 3 #[.int .i64 0] := by
 have H := Lib.hid h; clear h
 have hmk := mk235
 go_enter Tryz.func172, Tryz.ntmps172
 go_upto_region 1 with (fail)
 refine wp_gen (fun xw => Grw w xw ∧ Bk xw w.heap.size 31 (encW1 g c fr).toArray) ⟨(Grw.refl w).alloc _, Bk.new' (by simp)⟩ ?_
 rintro w1 ⟨hw1, hB1⟩
 have c5 : w1.cell? ⟨w.heap.size, 5, none⟩ = some (.slice (some ⟨g, 0, none⟩) 1 c) := hB1.cell 5
 have hl := hB1.lt
 go_upto_region 2 with (fail)
 refine wp_gen (fun xw => Grw w xw ∧ Bk xw w.heap.size 31 (encW1 g c fr).toArray ∧ Bk xw w1.heap.size 3 #[.int .i64 0]) ⟨hw1.alloc _, hB1.alloc _, Bk.new' (by simp)⟩ ?_
 clear hmk c5 hB1 hw1
 rintro w2 ⟨hw2, hB2, hG2⟩
 have g0 : w2.cell? ⟨w1.heap.size, 0, none⟩ = some (.int .i64 0) := hG2.cell 0
 have gf := hG2.frozen
 have hl2 := hG2.lt
 go_wp2_with fail
 refine wp_loop_rounds 2 ?_
 rw [rounds_succ]
 go_upto_region 6 with (fail)
 refine wp_gen (fun xw => Grw w xw ∧ Bk xw w.heap.size 31 (encW1 g c fr).toArray ∧ Bk xw w1.heap.size 3 #[.int .i64 0]) ⟨hw2.setAt (by omega) _, hB2.far (by omega) _, hG2.set 0 (.int .i64 0)⟩ ?_
 clear g0 gf hB2 hw2 hG2
 rintro w3 ⟨hw3, hB3, hG3⟩
 have c7 : w3.cell? ⟨w.heap.size, 7, none⟩ = some (.slice none 0 0) := hB3.cell 7
 have c6 : w3.cell? ⟨w.heap.size, 6, none⟩ = some (.slice none 0 0) := hB3.cell 6
 go_wp2_with fail
 rw [rounds_succ]
 go_wp2_with fail
 refine wp_loop_rounds 1 ?_
 rw [rounds_succ]
 go_wp2_with fail
 refine wp_loop_rounds 1 ?_
 rw [rounds_succ]
 go_wp2_with fail
 go_ret
 exact ⟨_, rfl, hw3, #[], by simpa using hG3⟩
theorem Pk.frozen {w : World} {b t : Nat} {cs : Array Value} (h : Pk w b t cs) (i : Nat) : w.frozen? ⟨b, i, none⟩ = false := h.elim fun _ h => h.frozen i
theorem Pk.set {w : World} {b t : Nat} {cs cs' : Array Value} (h : Pk w b t cs) {i : Nat} {u : Value} (hi : i < cs.size) (e : cs.setIfInBounds i u = cs') : Pk (w.setCell ⟨b, i, none⟩ u) b t cs' := by
 subst e
 obtain ⟨rest, h⟩ := h
 refine ⟨rest, ?_⟩
 have h2 := h.set i u
 rwa [show (cs ++ rest).setIfInBounds i u = cs.setIfInBounds i u ++ rest from Array.setIfInBounds_append_left hi] at h2
theorem Pk.apart {w : World} {b b' t t' : Nat} {cs cs' : Array Value} (h : Pk w b t cs) (h' : Pk w b' t' cs') (ht : t ≠ t') : b ≠ b' := h.elim fun _ h => h'.elim fun _ h' => h.apart h' ht
theorem Bk.pk {w : World} {b t : Nat} {cs : Array Value} (h : Bk w b t cs) : Pk w b t cs := ⟨#[], by simpa using h⟩
theorem Pk.keep {w w' : World} {b t : Nat} {cs : Array Value} {S : Nat → Prop} (h : Pk w b t cs) (hc : OnlyChg S w w') (hs : ¬ S b) : Pk w' b t cs := h.imp fun _ h => h.keep hc hs
theorem Pk.notMap {α : Type} {enc : α → Value} {w : World} {b m t : Nat} {cs : Array Value} {l : List (Int × α)} (h : Pk w b t cs) (hm : MapIs enc w m l) : b ≠ m := by
 rintro rfl
 obtain ⟨rest, h⟩ := h
 obtain ⟨es, cl, hb, _⟩ := hm
 unfold Bk at h
 rw [h] at hb; cases hb
theorem infoIsl : (Tryz.prog.info? 113).map (fun i => (i.zero, i.size, i.bytes)) = some (some (.agg #[.slice none 0 0, .slice none 0 0, .slice none 0 0]), 3, 72) := by kernel_rfl
theorem infoInt : (Tryz.prog.info? 3).map (fun i => (i.zero, i.size, i.bytes)) = some (some (.int .i64 0), 1, 8) := by kernel_rfl
def I1 (w : World) (gi gb cb : Nat) : Prop := Pk w gi 113 #[.slice (some ⟨gb, 0, none⟩) 1 cb, .slice none 0 0, .slice none 0 0] ∧ Pk w gb 3 #[.int .i64 0]
theorem I1.grw {w w' : World} {gi gb cb : Nat} (h : I1 w gi gb cb) (hg : Grw w w') : I1 w' gi gb cb := ⟨h.1.grw hg, h.2.grw hg⟩
theorem build1 {g c : Nat} {b : ObV} {fr : Int} {w : World} (h : B1 w g b) (hv : validateE (W1 g c b fr) = 0) (hk : b.kd = 3) :
   Calls Tryz.prog 103 #[.agg (encW1 g c fr).toArray] w fun e w' => ∃ gi ci gb cb, e = .returned (.slice (some ⟨gi, 0, none⟩) 1 ci) ∧ Grw w w' ∧ I1 w' gi gb cb := by
 have H := Lib.hid h; clear h
 have HK := Lib.hid hk; clear hk
 have hmm := @run_makeMap Tryz.prog
 go_enter Tryz.func103, Tryz.ntmps103
 go_upto_region 1 with (fail)
 refine wp_gen (fun xw => Grw w xw ∧ Bk xw w.heap.size 31 (encW1 g c fr).toArray) ⟨(Grw.refl w).alloc _, Bk.new' (by simp)⟩ ?_
 rintro w1 ⟨hw1, hB1⟩
 have gA1 : HaveAll w1 (w.heap.size) 0 11 := hB1.have 0 11 (Nat.le_of_ble_eq_true rfl)
 have gC1 : cellsAt w1 (w.heap.size) 0 11 = (encW1 g c fr).toArray := hB1.cells' 0 11 _ rfl rfl
 go_wp2_with fail
 (go_at_call 5; refine (validate1 (b := b) (Sl.grw H.out hw1) hv).mono ?_; rintro e w2 ⟨rfl, hg2⟩)
 have hw2 := hw1.trans hg2
 have hB2 := hB1.grw hg2
 have gA2 : HaveAll w2 (w.heap.size) 0 11 := hB2.have 0 11 (Nat.le_of_ble_eq_true rfl)
 have gC2 : cellsAt w2 (w.heap.size) 0 11 = (encW1 g c fr).toArray := hB2.cells' 0 11 _ rfl rfl
 clear gA1 gC1 hB1 hw1 hg2
 go_wp2_with fail
 (go_at_call 172; refine (connect1 (b := b) (Sl.grw H.out hw2)).mono ?_; rintro e w3 ⟨gp, rfl, hg3, hP3⟩)
 have hw3 := hw2.trans hg3
 have hB3 := hB2.grw hg3
 clear gA2 gC2 hB2 hw2 hg3
 go_upto_region 6 with (fail)
 refine wp_gen (fun xw => Grw w xw ∧ Bk xw w.heap.size 31 (encW1 g c fr).toArray ∧ Pk xw gp 3 #[.int .i64 0] ∧ MapIs (fun n : Int => .int .i64 n) xw w3.heap.size []) ⟨hw3.alloc _, hB3.alloc _, Pk.grw hP3 ((Grw.refl w3).alloc _), MapIs.made _ w3⟩ ?_
 have hl3 := hB3.lt
 have hp3 := hP3.lt
 clear hmm hB3 hw3 hP3
 rintro w4 ⟨hw4, hB4, hP4, hM4⟩
 have c5 : w4.cell? ⟨w.heap.size, 5, none⟩ = some (.slice (some ⟨g, 0, none⟩) 1 c) := hB4.cell 5
 obtain ⟨bx, ox, he, hbx, gEA, gEC⟩ := (Sl.grw H.out hw4).big (fun _ => rfl) (show [b.body][0]? = some b.body from rfl)
 cases he
 rw [Nat.zero_mul, Nat.add_zero] at gEA gEC
 replace gEC : cellsAt w4 g 0 20 = (encObV b).toArray := gEC
 have hl4 := hB4.lt; have hm4 := hM4.lt; have hp4 := hP4.lt
 go_wp2_with fail
 refine wp_loop_rounds 2 ?_
 rw [rounds_succ]
 go_upto_region 9 with (fail)
 refine wp_gen (fun xw => Grw w xw ∧ Bk xw w.heap.size 31 (encW1 g c fr).toArray ∧ Pk xw gp 3 #[.int .i64 0] ∧ MapIs (fun n : Int => .int .i64 n) xw w3.heap.size [] ∧ Bk xw w4.heap.size 44 (encObV b).toArray) ⟨(hw4.alloc _).setCells (by omega) _, (hB4.alloc _).farCells (by omega) _, Pk.farCells (Pk.grw hP4 ((Grw.refl w4).alloc _)) (by omega) _, hM4.grw (((Grw.refl w4).alloc _).setCells (Nat.le_refl _) _), (Bk.new' (by simp)).setAll' rfl rfl⟩ ?_
 clear c5 gEA gEC hB4 hw4 hP4 hM4
 rintro w5 ⟨hw5, hB5, hP5, hM5, hX5⟩
 have x1 : w5.cell? ⟨w4.heap.size, 1, none⟩ = some (.int .i64 3) := by rw [← HK.out]; exact hX5.cell 1
 have hP5h := Lib.hid hP5
 go_wp2_with fail
 (go_at_call 173; refine (root1 gp 1 _ hP5h.out).mono ?_; rintro e w6 ⟨rfl, rfl⟩)
 obtain ⟨w7, hup, hM7, hC7⟩ := hM5.add Tryz.underlying237 (i := 0) (by decide) (by simp) 0
 have hw7 : Grw w w7 := OnlyChg.near (S := fun k => w.heap.size ≤ k) ((OnlyChg.of_grw hw5).trans (hC7.mono fun k _ hk => by omega)) fun k h => h
 have hB7 : Bk w7 w.heap.size 31 (encW1 g c fr).toArray := (hC7.block _ hB5.lt (by omega)).trans hB5
 have hP7 : Pk w7 gp 3 #[.int .i64 0] := hP5h.out.keep hC7 (hP5h.out.notMap hM5)
 have hX7 : Bk w7 w4.heap.size 44 (encObV b).toArray := (hC7.block _ hX5.lt (by omega)).trans hX5
 have hl7 := hB7.lt; have hm7 := hM7.lt
 have hz4 : w4.heap.size < w7.heap.size := hX7.lt
 have hlook := hM7.look_yes1 Tryz.underlying237 (by simp) (i := 0) (v := 0) (by simp)
 have HM7 := Lib.hid hM7; have HB7 := Lib.hid hB7; have HP7 := Lib.hid hP7
 clear hM7 hB7 hP7 hX7 hC7 hB5 hP5h hM5 hX5 x1 hlook
 have hO0 : OwnL 113 3 (fun _ : Unit => [.slice none 0 0, .slice none 0 0, .slice none 0 0]) w7 w.heap.size (.slice none 0 0) ([] : List Unit) := OwnL.nil _ _ _ _ _
 have HO0 := Lib.hid hO0; clear hO0
 have hsz7 := hw7.size
 go_wp2_with (at_builtin; refine wpList_push (enc := fun _ : Unit => [.slice none 0 0, .slice none 0 0, .slice none 0 0]) (z := .agg #[.slice none 0 0, .slice none 0 0, .slice none 0 0]) (bytes := 72) (fun _ => rfl) (by simp [Value.oneCell']) w.heap.size rfl _ _ rfl Tryz.underlying107 infoIsl rfl (by decide) (by decide) (.slice none 0 0) [] () _ rfl rfl rfl HO0.out hsz7 (by simp) ?_; intro v1 w8 hO8 hC8 _)
 have hg78 : Grw w7 w8 := (hC8.mono (S' := fun _ => False) (by simp [Value.ownBlock])).toGrw
 obtain ⟨gi, ci, rfl, hgi, hPi'⟩ := OwnL.pk (enc := fun _ : Unit => [.slice none 0 0, .slice none 0 0, .slice none 0 0]) (size := 3) (fun _ => rfl) hO8 (by simp)
 have hPi : Pk w8 gi 113 #[.slice none 0 0, .slice none 0 0, .slice none 0 0] := hPi'
 have hw8 := hw7.trans hg78
 have hlook : (Instr.lookup 237 (.map (some w3.heap.size)) (.int .i64 0) false).run Tryz.prog w8 = .ok (.int .i64 0) w8 := (HM7.out.grw hg78).look_yes1 Tryz.underlying237 (by simp) (i := 0) (v := 0) (by simp)
 rw [show ([] ++ [()] : List Unit).length = 1 from rfl]
 have q0 : w8.cell? ⟨gi, 0, none⟩ = some (.slice none 0 0) := hPi.cell rfl
 have hsz8 := hw8.size
 have HPi := Lib.hid hPi
 have hO1 : OwnL 3 1 encInt w8 w.heap.size (.slice none 0 0) ([] : List Int) := OwnL.nil _ _ _ _ _
 have HO1 := Lib.hid hO1
 have HB8 := Lib.hid (HB7.out.grw hg78)
 clear hO1 hPi hPi' hO8 hC8 HB7 HO0
 go_wp2_with fail
 rw [hlook]
 go_wp2_with (at_builtin; refine wpList_push (enc := encInt) (z := .int .i64 0) (bytes := 8) (fun _ => rfl) (by simp [encInt, Value.oneCell']) w.heap.size rfl _ _ rfl Tryz.underlying106 infoInt rfl (by decide) (by decide) (.slice none 0 0) [] 0 _ rfl rfl rfl HO1.out hsz8 (by simp) ?_; intro v2 w9 hO9 hC9 _; have hg89 : Grw w8 w9 := (hC9.mono (S' := fun _ => False) (by simp [Value.ownBlock])).toGrw; obtain ⟨gb, cb, rfl, hgb, hPb'⟩ := OwnL.pk (enc := encInt) (size := 1) (fun _ => rfl) hO9 (by simp); have hPb : Pk w9 gb 3 #[.int .i64 0] := hPb'; have hPi9 := HPi.out.grw hg89; have q9 : w9.cell? ⟨gi, 0, none⟩ = some (.slice none 0 0) := hPi9.cell rfl; have qf := hPi9.frozen; have hB9 := HB8.out.grw hg89; have hne1 := hPi9.apart hPb (by decide); have hne2 := hPi9.apart hB9.pk (by decide); have hw9 := hw8.trans hg89; have HPb := Lib.hid hPb; have HPi9 := Lib.hid hPi9; have HB9 := Lib.hid hB9; clear hPb hPb' hPi9 hB9 hO9 hC9 HO1 HPi HB8 hlook q0; rw [show ([] ++ [0] : List Int).length = 1 from rfl])
 go_upto_region 16 with (fail)
 refine wp_gen (fun xw => Grw w xw ∧ Bk xw w.heap.size 31 (encW1 g c fr).toArray ∧ I1 xw gi gb cb) ⟨hw9.setAt (by omega) _, HB9.out.far (by omega) _, HPi9.out.set (by decide) rfl, HPb.out.far (by omega) _⟩ ?_
 clear q9 qf hw9 HB9 HPi9 HPb hne1 hne2
 rintro w10 ⟨hw10, hB10, hI10⟩
 have c7 : w10.cell? ⟨w.heap.size, 7, none⟩ = some (.slice none 0 0) := hB10.cell 7
 have c6 : w10.cell? ⟨w.heap.size, 6, none⟩ = some (.slice none 0 0) := hB10.cell 6
 go_wp2_with fail
 refine wp_loop_rounds 1 ?_
 rw [rounds_succ]
 go_wp2_with fail
 refine wp_loop_rounds 1 ?_
 rw [rounds_succ]
 go_wp2_with fail
 go_ret
 exact ⟨gi, ci, gb, cb, rfl, hw10, hI10⟩
def encI (gb cb : Nat) : List Value := [.slice (some ⟨gb, 0, none⟩) 1 cb, .slice none 0 0, .slice none 0 0]
theorem encI_eq (gb cb : Nat) : (encI gb cb).toArray = #[.slice (some ⟨gb, 0, none⟩) 1 cb, .slice none 0 0, .slice none 0 0] := rfl
attribute [local go_sem] encI_eq
def Z1 (w : World) (gb : Nat) : Prop := Pk w gb 3 #[.int .i64 0]
theorem Z1.grw {w w' : World} {gb : Nat} (h : Z1 w gb) (hg : Grw w w') : Z1 w' gb := Pk.grw h hg
def grpC (g c : Nat) (fr : Int) (gb cb : Nat) (s : Value) : Array Value := #[.int .i64 8192, .int .i64 0, .int .i64 (-65536), .int .i64 1, .int .i64 0, .slice (some ⟨g, 0, none⟩) 1 c, .slice none 0 0, .slice none 0 0, .slice none 0 0, .int .i64 2, .int .i64 fr, .slice (some ⟨gb, 0, none⟩) 1 cb, .slice none 0 0, .slice none 0 0, s]
def Gp (w : World) (p g c : Nat) (b : ObV) (fr : Int) (gb cb gk ck : Nat) : Prop := Bk w p 242 (grpC g c fr gb cb (.slice (some ⟨gk, 0, none⟩) 1 ck)) ∧ O1 w g b ∧ Z1 w gb ∧ Z1 w gk
theorem Gp.grw {w w' : World} {p g c : Nat} {b : ObV} {fr : Int} {gb cb gk ck : Nat} (h : Gp w p g c b fr gb cb gk ck) (hg : Grw w w') : Gp w' p g c b fr gb cb gk ck := ⟨h.1.grw hg, h.2.1.grw hg, h.2.2.1.grw hg, h.2.2.2.grw hg⟩
theorem indexI_nil (x : Int) (w : World) : Calls Tryz.prog 298 #[.slice none 0 0, .int .i64 x] w fun e w' => e = .returned (.int .i64 (-1)) ∧ w = w' := by
 go_enter Tryz.func298, Tryz.ntmps298
 go_wp2_with fail
 refine wp_loop_rounds 1 ?_
 rw [rounds_succ]
 go_wp2_with fail
 go_ret
 exact ⟨rfl, rfl⟩
theorem containsI_nil (x : Int) (w : World) : Calls Tryz.prog 240 #[.slice none 0 0, .int .i64 x] w fun e w' => e = .returned (.bool false) ∧ w = w' := by
 go_enter Tryz.func240, Tryz.ntmps240
 go_wp2_with (go_at_call 298; refine (indexI_nil _ _).mono ?_; rintro e w1 ⟨rfl, rfl⟩)
 go_ret
 exact ⟨rfl, rfl⟩
theorem newGroup1 {g c gb cb : Nat} {b : ObV} {fr : Int} {w : World} (h : B1 w g b) (hz : Z1 w gb) :
   Calls Tryz.prog 175 #[.agg (encW1 g c fr).toArray, .agg (encI gb cb).toArray] w fun e w' => ∃ p g' c' gk ck, e = .returned (.pointer (some ⟨p, 0, none⟩)) ∧ Grw w w' ∧ w.heap.size ≤ p ∧ w.heap.size ≤ g' ∧ Gp w' p g' c' b fr gb cb gk ck := by
 have H := Lib.hid h; clear h
 have HZ := Lib.hid hz; clear hz
 go_enter Tryz.func175, Tryz.ntmps175
 go_upto_region 1 with (fail)
 refine wp_gen (fun xw => Grw w xw ∧ Bk xw w.heap.size 31 (encW1 g c fr).toArray ∧ Bk xw (w.heap.size + 1) 113 (encI gb cb).toArray) ⟨((Grw.refl w).alloc _).alloc _, (Bk.new' (by simp)).alloc _, Bk.new' (by simp)⟩ ?_
 rintro w1 ⟨hw1, hB1, hI1⟩
 have gA : HaveAll w1 (w.heap.size) 0 11 := hB1.have 0 11 (Nat.le_of_ble_eq_true rfl)
 have gC : cellsAt w1 (w.heap.size) 0 11 = (encW1 g c fr).toArray := hB1.cells' 0 11 _ rfl rfl
 have i0 : w1.cell? ⟨w.heap.size + 1, 0, none⟩ = some (.slice (some ⟨gb, 0, none⟩) 1 cb) := hI1.cell 0
 have i1 : w1.cell? ⟨w.heap.size + 1, 1, none⟩ = some (.slice none 0 0) := hI1.cell 1
 have i2 : w1.cell? ⟨w.heap.size + 1, 2, none⟩ = some (.slice none 0 0) := hI1.cell 2
 have hl1 := hB1.lt; have hl2 := hI1.lt
 have HB1 := Lib.hid hB1; have HI1 := Lib.hid hI1; clear hB1 hI1
 refine wp_region_steps [(true, 0), (true, 2), (false, 1)] [3, 4, 5] (by kernel_rfl) (by kernel_rfl) ?_
 intro w2 hw2
 iterate 2 (refine st_det rfl (fun K hK => ?_); go_simp; refine hK _ ?_; clear hK K)
 refine st_mid rfl (fun w3 hw3 K hK => ?_)
 go_simp
 refine (clone1 (Sl.grw H.out (by (repeat with_reducible first | exact .refl _ | assumption | refine .setAt ?_ (by first | omega | simp <;> omega) _ | refine .setCells ?_ (by first | omega | simp <;> omega) _ | refine .alloc ?_ _ | refine .drewN ?_ _ | refine .drew ?_ | refine .trans ?_ (by assumption))))).mono ?_
 rintro e w4 ⟨g', c', rfl, hg4, hgg, hO4⟩
 refine ⟨_, rfl, hK _ _ (by (repeat with_reducible first | exact .refl _ | assumption | refine .setAt ?_ (by first | omega | simp <;> omega) _ | refine .setCells ?_ (by first | omega | simp <;> omega) _ | refine .alloc ?_ _ | refine .drewN ?_ _ | refine .drew ?_ | refine .trans ?_ (by assumption))) ?_⟩; clear hK K
 refine st_nil (fun w5 hw5 => ?_)
 simp only [pickO, List.getElem?_cons_succ, List.getElem?_cons_zero]
 have hg14 : Grw w1 w5 := (((hw2.trans hw3).trans hg4).trans hw5)
 have hw15 := hw1.trans hg14
 have hB5 := HB1.out.grw hg14; have hI5 := HI1.out.grw hg14; have hO5 := hO4.grw hw5
 have hsz3 := (hw1.trans (hw2.trans hw3)).size
 have hsz15 := hg14.size
 clear i0 i1 i2 gA gC HB1 HI1 hO4 hg14 hw2 hw3 hg4 hw5 hw1
 go_upto_region 2 with (fail)
 refine wp_gen (fun xw => Grw w xw ∧ Bk xw w.heap.size 31 (encW1 g c fr).toArray ∧ Bk xw (w.heap.size + 1) 113 (encI gb cb).toArray ∧ O1 xw g' b ∧ Bk xw w5.heap.size 242 (grpC g' c' fr gb cb (.slice none 0 0))) ⟨hw15.alloc _, hB5.alloc _, hI5.alloc _, hO5.grw ((Grw.refl w5).alloc _), Bk.new' rfl⟩ ?_
 clear hB5 hI5 hO5
 have hsz5 := hw15.size
 clear hw15
 rintro w6 ⟨hw6, hB6, hI6, hO6, hG6⟩
 have c5 : w6.cell? ⟨w.heap.size, 5, none⟩ = some (.slice (some ⟨g, 0, none⟩) 1 c) := hB6.cell 5
 have i0 : w6.cell? ⟨w.heap.size + 1, 0, none⟩ = some (.slice (some ⟨gb, 0, none⟩) 1 cb) := hI6.cell 0
 have z0 : w6.cell? ⟨gb, 0, none⟩ = some (.int .i64 0) := Pk.cell (HZ.out.grw hw6) rfl
 have q14 : w6.cell? ⟨w5.heap.size, 14, none⟩ = some (.slice none 0 0) := hG6.cell 14
 have qf := hG6.frozen
 have hl6 := hB6.lt; have hm6 := hI6.lt; have hp6 := hG6.lt
 have hsz6 := hw6.size
 have hO0 : OwnL 3 1 encInt w6 w.heap.size (.slice none 0 0) ([] : List Int) := OwnL.nil _ _ _ _ _
 have HO0 := Lib.hid hO0
 have HB6 := Lib.hid hB6; have HI6 := Lib.hid hI6; have HO6 := Lib.hid hO6; have HG6 := Lib.hid hG6
 clear hO0 hB6 hI6 hO6 hG6
 go_wp2_with fail
 refine wp_loop_rounds 2 ?_
 rw [rounds_succ]
 go_upto_region 6 with (go_at_call 240; refine (containsI_nil _ _).mono ?_; rintro e w1 ⟨rfl, rfl⟩)
 go_upto_region 7 with (at_builtin; refine wpList_push (enc := encInt) (z := .int .i64 0) (bytes := 8) (fun _ => rfl) (by simp [encInt, Value.oneCell']) w.heap.size rfl _ _ rfl Tryz.underlying106 infoInt rfl (by decide) (by decide) (.slice none 0 0) [] 0 _ rfl rfl rfl HO0.out hsz6 (by simp) ?_; intro v1 w7 hO7 hC7 _; have hg67 : Grw w6 w7 := (hC7.mono (S' := fun _ => False) (by simp [Value.ownBlock])).toGrw; obtain ⟨gk, ck, rfl, hgk, hPb'⟩ := OwnL.pk (enc := encInt) (size := 1) (fun _ => rfl) hO7 (by simp); have hZ7 : Z1 w7 gk := hPb'; have hB7 := HB6.out.grw hg67; have hI7 := HI6.out.grw hg67; have hO7' := O1.grw HO6.out hg67; have hG7 := HG6.out.grw hg67; have hw7 := hw6.trans hg67; have q14' : w7.cell? ⟨w5.heap.size, 14, none⟩ = some (.slice none 0 0) := hG7.cell 14; have qf' := hG7.frozen; have hn1 := Pk.apart hO7' hG7.pk (by decide); have hn2 := Pk.apart hZ7 hG7.pk (by decide); have hp7 := hG7.lt; have HB7 := Lib.hid hB7; have HI7 := Lib.hid hI7; have HO7 := Lib.hid hO7'; have HG7 := Lib.hid hG7; have HZ7 := Lib.hid hZ7; clear hPb' hO7 hC7 q14 qf HO0 HB6 HI6 HO6 HG6 hB7 hI7 hO7' hG7 hZ7 i0 c5 z0; rw [show ([] ++ [0] : List Int).length = 1 from rfl])
 refine wp_gen (fun xw => Grw w xw ∧ Bk xw w.heap.size 31 (encW1 g c fr).toArray ∧ Bk xw (w.heap.size + 1) 113 (encI gb cb).toArray ∧ Gp xw w5.heap.size g' c' b fr gb cb gk ck) ⟨hw7.setAt (by omega) _, HB7.out.far (by omega) _, HI7.out.far (by omega) _, HG7.out.set 14 (.slice (some ⟨gk, 0, none⟩) 1 ck), Pk.far HO7.out (by omega) _, Pk.far (HZ.out.grw hw7) (by have := (Pk.lt HZ.out); omega) _, Pk.far HZ7.out (by omega) _⟩ ?_
 clear q14' qf' HB7 HI7 HG7 HO7 HZ7 hw7 hg67
 rintro w8 ⟨hw8, hB8, hI8, hG8⟩
 have HG8 := Lib.hid hG8
 clear hG8
 go_wp2_with fail
 rw [rounds_succ]
 go_wp2_with fail
 go_ret
 exact ⟨_, _, _, _, _, rfl, hw8, by omega, by omega, HG8.out⟩
end
end Go.Proofs.YtokkghhmliplfaaGreat
