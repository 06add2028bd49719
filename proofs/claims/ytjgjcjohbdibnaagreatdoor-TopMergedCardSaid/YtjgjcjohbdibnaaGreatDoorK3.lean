/- Walks of functions that braidtop.TopMerged reaches, each with what it computes, and the plain laws of what they compute, part 3. Conditions: those of each theorem (the arguments lie in blocks that no longer change, sizes as the law bounds them). Printed by a program of this claim and shortened by another: the names of two letters are abbreviations, explained where the first of them stand. -/
import Derived.Test.YtjgjcjohbdibnaaGreatDoorK2
import Derived.Shelf.SlSortCmp.NoneTotal
import Derived.Shelf.SlGeneric
import Derived.Test.YtjgjcjohbdibnaaGreatDoorProg
set_option linter.all false
namespace Go.Proofs
open Go.Shelf
def Tryz.sortID_ren : Go.Shelf.Ren := ⟨fun | 6 => 68 | 15 => 82 | 14 => 110 | 28 => 129 | 29 => 130 | 20 => 165 | 21 => 166 | 22 => 167 | 23 => 168 | 24 => 169 | 25 => 170 | 26 => 171 | 27 => 172 | 46 => 215 | 47 => 182 | 48 => 183 | 49 => 216 | 50 => 217 | 57 => 238 | n => n, fun | 22 => 22 | 24 => 74 | 25 => 95 | 3 => 3 | 39 => 143 | 0 => 0 | 53 => 53 | 55 => 52 | 4 => 4 | 46 => 180 | 45 => 179 | 50 => 80 | 5 => 5 | 9 => 9 | 66 => 226 | 70 => 230 | 76 => 263 | 77 => 264 | n => n, fun | n => n⟩
theorem Tryz.sortID : Go.Proofs.SlLaysF0.n6 Tryz.prog Tryz.sortID_ren := {
 mixed := by kernel_rfl
 f6 := ⟨Tryz.f68.name, by decide, Tryz.func68.trans (congrArg some (by kernel_rfl))⟩
 f14 := ⟨Tryz.f110.name, by decide, Tryz.func110.trans (congrArg some (by kernel_rfl))⟩
 f15 := Tryz.func82.trans (congrArg some (by kernel_rfl))
 f20 := ⟨Tryz.f165.name, by decide, Tryz.func165.trans (congrArg some (by kernel_rfl))⟩
 f21 := ⟨Tryz.f166.name, by decide, Tryz.func166.trans (congrArg some (by kernel_rfl))⟩
 f22 := ⟨Tryz.f167.name, by decide, Tryz.func167.trans (congrArg some (by kernel_rfl))⟩
 f23 := ⟨Tryz.f168.name, by decide, Tryz.func168.trans (congrArg some (by kernel_rfl))⟩
 f24 := ⟨Tryz.f169.name, by decide, Tryz.func169.trans (congrArg some (by kernel_rfl))⟩
 f25 := ⟨Tryz.f170.name, by decide, Tryz.func170.trans (congrArg some (by kernel_rfl))⟩
 f26 := ⟨Tryz.f171.name, by decide, Tryz.func171.trans (congrArg some (by kernel_rfl))⟩
 f27 := ⟨Tryz.f172.name, by decide, Tryz.func172.trans (congrArg some (by kernel_rfl))⟩
 f28 := Tryz.func129.trans (congrArg some (by kernel_rfl))
 f29 := Tryz.func130.trans (congrArg some (by kernel_rfl))
 f46 := ⟨Tryz.f215.name, by decide, Tryz.func215.trans (congrArg some (by kernel_rfl))⟩
 f47 := Tryz.func182.trans (congrArg some (by kernel_rfl))
 f48 := Tryz.func183.trans (congrArg some (by kernel_rfl))
 f49 := ⟨Tryz.f216.name, by decide, Tryz.func216.trans (congrArg some (by kernel_rfl))⟩
 f50 := ⟨Tryz.f217.name, by decide, Tryz.func217.trans (congrArg some (by kernel_rfl))⟩
 f57 := ⟨Tryz.f238.name, by decide, Tryz.func238.trans (congrArg some (by kernel_rfl))⟩
 t0 := Tryz.underlying0
 a0 := Tryz.isAgg0
 z0 := Tryz.sizeOf0
 v0 := Tryz.zeroValue0
 t3 := Tryz.underlying3
 a3 := Tryz.isAgg3
 z3 := Tryz.sizeOf3
 v3 := Tryz.zeroValue3
 t4 := Tryz.underlying4
 a4 := Tryz.isAgg4
 z4 := Tryz.sizeOf4
 v4 := Tryz.zeroValue4
 t5 := Tryz.underlying5
 a5 := Tryz.isAgg5
 z5 := Tryz.sizeOf5
 v5 := Tryz.zeroValue5
 t9 := Tryz.underlying9
 a9 := Tryz.isAgg9
 z9 := Tryz.sizeOf9
 v9 := Tryz.zeroValue9
 t22 := Tryz.underlying22
 a22 := Tryz.isAgg22
 z22 := Tryz.sizeOf22
 v22 := Tryz.zeroValue22
 t25 := Tryz.underlying95
 a25 := Tryz.isAgg95
 z25 := Tryz.sizeOf95
 v25 := Tryz.zeroValue95
 t39 := Tryz.underlying143
 a39 := Tryz.isAgg143
 z39 := Tryz.sizeOf143
 v39 := Tryz.zeroValue143
 t45 := Tryz.underlying179
 a45 := Tryz.isAgg179
 z45 := Tryz.sizeOf179
 v45 := Tryz.zeroValue179
 t46 := Tryz.underlying180
 a46 := Tryz.isAgg180
 z46 := Tryz.sizeOf180
 v46 := Tryz.zeroValue180
 t50 := Tryz.underlying80
 a50 := Tryz.isAgg80
 z50 := Tryz.sizeOf80
 v50 := Tryz.zeroValue80
 t53 := Tryz.underlying53
 a53 := Tryz.isAgg53
 z53 := Tryz.sizeOf53
 v53 := Tryz.zeroValue53
 t55 := Tryz.underlying52
 a55 := Tryz.isAgg52
 z55 := Tryz.sizeOf52
 v55 := Tryz.zeroValue52
 t66 := Tryz.underlying226
 a66 := Tryz.isAgg226
 z66 := Tryz.sizeOf226
 v66 := Tryz.zeroValue226
 t70 := Tryz.underlying230
 a70 := Tryz.isAgg230
 z70 := Tryz.sizeOf230
 v70 := Tryz.zeroValue230
 t76 := Tryz.underlying263
 a76 := Tryz.isAgg263
 z76 := Tryz.sizeOf263
 v76 := Tryz.zeroValue263
 t77 := Tryz.underlying264
 a77 := Tryz.isAgg264
 z77 := Tryz.sizeOf264
 v77 := Tryz.zeroValue264 }
def Tryz.sortTag_ren : Go.Shelf.Ren := ⟨fun | 6 => 42 | 15 => 82 | 14 => 81 | 28 => 129 | 29 => 130 | 20 => 121 | 21 => 122 | 22 => 123 | 23 => 124 | 24 => 125 | 25 => 126 | 26 => 127 | 27 => 128 | 46 => 181 | 47 => 182 | 48 => 183 | 49 => 184 | 50 => 185 | 57 => 221 | n => n, fun | 22 => 35 | 24 => 97 | 25 => 100 | 3 => 3 | 39 => 143 | 0 => 0 | 53 => 53 | 55 => 52 | 4 => 4 | 46 => 180 | 45 => 179 | 50 => 80 | 5 => 5 | 9 => 9 | 66 => 226 | 70 => 230 | 76 => 263 | 77 => 264 | n => n, fun | n => n⟩
theorem Tryz.sortTag : Go.Proofs.SlLaysF0.n6 Tryz.prog Tryz.sortTag_ren := {
 mixed := by kernel_rfl
 f6 := ⟨Tryz.f42.name, by decide, Tryz.func42.trans (congrArg some (by kernel_rfl))⟩
 f14 := ⟨Tryz.f81.name, by decide, Tryz.func81.trans (congrArg some (by kernel_rfl))⟩
 f15 := Tryz.func82.trans (congrArg some (by kernel_rfl))
 f20 := ⟨Tryz.f121.name, by decide, Tryz.func121.trans (congrArg some (by kernel_rfl))⟩
 f21 := ⟨Tryz.f122.name, by decide, Tryz.func122.trans (congrArg some (by kernel_rfl))⟩
 f22 := ⟨Tryz.f123.name, by decide, Tryz.func123.trans (congrArg some (by kernel_rfl))⟩
 f23 := ⟨Tryz.f124.name, by decide, Tryz.func124.trans (congrArg some (by kernel_rfl))⟩
 f24 := ⟨Tryz.f125.name, by decide, Tryz.func125.trans (congrArg some (by kernel_rfl))⟩
 f25 := ⟨Tryz.f126.name, by decide, Tryz.func126.trans (congrArg some (by kernel_rfl))⟩
 f26 := ⟨Tryz.f127.name, by decide, Tryz.func127.trans (congrArg some (by kernel_rfl))⟩
 f27 := ⟨Tryz.f128.name, by decide, Tryz.func128.trans (congrArg some (by kernel_rfl))⟩
 f28 := Tryz.func129.trans (congrArg some (by kernel_rfl))
 f29 := Tryz.func130.trans (congrArg some (by kernel_rfl))
 f46 := ⟨Tryz.f181.name, by decide, Tryz.func181.trans (congrArg some (by kernel_rfl))⟩
 f47 := Tryz.func182.trans (congrArg some (by kernel_rfl))
 f48 := Tryz.func183.trans (congrArg some (by kernel_rfl))
 f49 := ⟨Tryz.f184.name, by decide, Tryz.func184.trans (congrArg some (by kernel_rfl))⟩
 f50 := ⟨Tryz.f185.name, by decide, Tryz.func185.trans (congrArg some (by kernel_rfl))⟩
 f57 := ⟨Tryz.f221.name, by decide, Tryz.func221.trans (congrArg some (by kernel_rfl))⟩
 t0 := Tryz.underlying0
 a0 := Tryz.isAgg0
 z0 := Tryz.sizeOf0
 v0 := Tryz.zeroValue0
 t3 := Tryz.underlying3
 a3 := Tryz.isAgg3
 z3 := Tryz.sizeOf3
 v3 := Tryz.zeroValue3
 t4 := Tryz.underlying4
 a4 := Tryz.isAgg4
 z4 := Tryz.sizeOf4
 v4 := Tryz.zeroValue4
 t5 := Tryz.underlying5
 a5 := Tryz.isAgg5
 z5 := Tryz.sizeOf5
 v5 := Tryz.zeroValue5
 t9 := Tryz.underlying9
 a9 := Tryz.isAgg9
 z9 := Tryz.sizeOf9
 v9 := Tryz.zeroValue9
 t22 := Tryz.underlying35
 a22 := Tryz.isAgg35
 z22 := Tryz.sizeOf35
 v22 := Tryz.zeroValue35
 t25 := Tryz.underlying100
 a25 := Tryz.isAgg100
 z25 := Tryz.sizeOf100
 v25 := Tryz.zeroValue100
 t39 := Tryz.underlying143
 a39 := Tryz.isAgg143
 z39 := Tryz.sizeOf143
 v39 := Tryz.zeroValue143
 t45 := Tryz.underlying179
 a45 := Tryz.isAgg179
 z45 := Tryz.sizeOf179
 v45 := Tryz.zeroValue179
 t46 := Tryz.underlying180
 a46 := Tryz.isAgg180
 z46 := Tryz.sizeOf180
 v46 := Tryz.zeroValue180
 t50 := Tryz.underlying80
 a50 := Tryz.isAgg80
 z50 := Tryz.sizeOf80
 v50 := Tryz.zeroValue80
 t53 := Tryz.underlying53
 a53 := Tryz.isAgg53
 z53 := Tryz.sizeOf53
 v53 := Tryz.zeroValue53
 t55 := Tryz.underlying52
 a55 := Tryz.isAgg52
 z55 := Tryz.sizeOf52
 v55 := Tryz.zeroValue52
 t66 := Tryz.underlying226
 a66 := Tryz.isAgg226
 z66 := Tryz.sizeOf226
 v66 := Tryz.zeroValue226
 t70 := Tryz.underlying230
 a70 := Tryz.isAgg230
 z70 := Tryz.sizeOf230
 v70 := Tryz.zeroValue230
 t76 := Tryz.underlying263
 a76 := Tryz.isAgg263
 z76 := Tryz.sizeOf263
 v76 := Tryz.zeroValue263
 t77 := Tryz.underlying264
 a77 := Tryz.isAgg264
 z77 := Tryz.sizeOf264
 v77 := Tryz.zeroValue264 }
def Tryz.sortReg_ren : Go.Shelf.Ren := ⟨fun | 6 => 49 | 15 => 82 | 14 => 84 | 28 => 129 | 29 => 130 | 20 => 131 | 21 => 132 | 22 => 133 | 23 => 134 | 24 => 135 | 25 => 136 | 26 => 137 | 27 => 138 | 46 => 186 | 47 => 182 | 48 => 183 | 49 => 187 | 50 => 188 | 57 => 222 | n => n, fun | 22 => 38 | 24 => 102 | 25 => 110 | 3 => 3 | 39 => 143 | 0 => 0 | 53 => 53 | 55 => 52 | 4 => 4 | 46 => 180 | 45 => 179 | 50 => 80 | 5 => 5 | 9 => 9 | 66 => 226 | 70 => 230 | 76 => 263 | 77 => 264 | n => n, fun | n => n⟩
theorem Tryz.sortReg : Go.Proofs.SlLaysF0.n6 Tryz.prog Tryz.sortReg_ren := {
 mixed := by kernel_rfl
 f6 := ⟨Tryz.f49.name, by decide, Tryz.func49.trans (congrArg some (by kernel_rfl))⟩
 f14 := ⟨Tryz.f84.name, by decide, Tryz.func84.trans (congrArg some (by kernel_rfl))⟩
 f15 := Tryz.func82.trans (congrArg some (by kernel_rfl))
 f20 := ⟨Tryz.f131.name, by decide, Tryz.func131.trans (congrArg some (by kernel_rfl))⟩
 f21 := ⟨Tryz.f132.name, by decide, Tryz.func132.trans (congrArg some (by kernel_rfl))⟩
 f22 := ⟨Tryz.f133.name, by decide, Tryz.func133.trans (congrArg some (by kernel_rfl))⟩
 f23 := ⟨Tryz.f134.name, by decide, Tryz.func134.trans (congrArg some (by kernel_rfl))⟩
 f24 := ⟨Tryz.f135.name, by decide, Tryz.func135.trans (congrArg some (by kernel_rfl))⟩
 f25 := ⟨Tryz.f136.name, by decide, Tryz.func136.trans (congrArg some (by kernel_rfl))⟩
 f26 := ⟨Tryz.f137.name, by decide, Tryz.func137.trans (congrArg some (by kernel_rfl))⟩
 f27 := ⟨Tryz.f138.name, by decide, Tryz.func138.trans (congrArg some (by kernel_rfl))⟩
 f28 := Tryz.func129.trans (congrArg some (by kernel_rfl))
 f29 := Tryz.func130.trans (congrArg some (by kernel_rfl))
 f46 := ⟨Tryz.f186.name, by decide, Tryz.func186.trans (congrArg some (by kernel_rfl))⟩
 f47 := Tryz.func182.trans (congrArg some (by kernel_rfl))
 f48 := Tryz.func183.trans (congrArg some (by kernel_rfl))
 f49 := ⟨Tryz.f187.name, by decide, Tryz.func187.trans (congrArg some (by kernel_rfl))⟩
 f50 := ⟨Tryz.f188.name, by decide, Tryz.func188.trans (congrArg some (by kernel_rfl))⟩
 f57 := ⟨Tryz.f222.name, by decide, Tryz.func222.trans (congrArg some (by kernel_rfl))⟩
 t0 := Tryz.underlying0
 a0 := Tryz.isAgg0
 z0 := Tryz.sizeOf0
 v0 := Tryz.zeroValue0
 t3 := Tryz.underlying3
 a3 := Tryz.isAgg3
 z3 := Tryz.sizeOf3
 v3 := Tryz.zeroValue3
 t4 := Tryz.underlying4
 a4 := Tryz.isAgg4
 z4 := Tryz.sizeOf4
 v4 := Tryz.zeroValue4
 t5 := Tryz.underlying5
 a5 := Tryz.isAgg5
 z5 := Tryz.sizeOf5
 v5 := Tryz.zeroValue5
 t9 := Tryz.underlying9
 a9 := Tryz.isAgg9
 z9 := Tryz.sizeOf9
 v9 := Tryz.zeroValue9
 t22 := Tryz.underlying38
 a22 := Tryz.isAgg38
 z22 := Tryz.sizeOf38
 v22 := Tryz.zeroValue38
 t25 := Tryz.underlying110
 a25 := Tryz.isAgg110
 z25 := Tryz.sizeOf110
 v25 := Tryz.zeroValue110
 t39 := Tryz.underlying143
 a39 := Tryz.isAgg143
 z39 := Tryz.sizeOf143
 v39 := Tryz.zeroValue143
 t45 := Tryz.underlying179
 a45 := Tryz.isAgg179
 z45 := Tryz.sizeOf179
 v45 := Tryz.zeroValue179
 t46 := Tryz.underlying180
 a46 := Tryz.isAgg180
 z46 := Tryz.sizeOf180
 v46 := Tryz.zeroValue180
 t50 := Tryz.underlying80
 a50 := Tryz.isAgg80
 z50 := Tryz.sizeOf80
 v50 := Tryz.zeroValue80
 t53 := Tryz.underlying53
 a53 := Tryz.isAgg53
 z53 := Tryz.sizeOf53
 v53 := Tryz.zeroValue53
 t55 := Tryz.underlying52
 a55 := Tryz.isAgg52
 z55 := Tryz.sizeOf52
 v55 := Tryz.zeroValue52
 t66 := Tryz.underlying226
 a66 := Tryz.isAgg226
 z66 := Tryz.sizeOf226
 v66 := Tryz.zeroValue226
 t70 := Tryz.underlying230
 a70 := Tryz.isAgg230
 z70 := Tryz.sizeOf230
 v70 := Tryz.zeroValue230
 t76 := Tryz.underlying263
 a76 := Tryz.isAgg263
 z76 := Tryz.sizeOf263
 v76 := Tryz.zeroValue263
 t77 := Tryz.underlying264
 a77 := Tryz.isAgg264
 z77 := Tryz.sizeOf264
 v77 := Tryz.zeroValue264 }
end Go.Proofs
namespace Go.Brd
open Go Go.Brd Go.Proofs
set_option linter.unusedVariables false
theorem ag_74 : aggN Tryz.prog 74 32 = true := by kernel_rfl
theorem ef_id : Tryz.prog.eqGuardType Tryz.prog.depth 74 = false := by kernel_rfl
theorem ia_id : isAggT Tryz.prog 74 = true := by kernel_rfl
theorem mixed : Tryz.prog.follows .mixedOrders = true := by kernel_rfl
theorem sh_id : shp Tryz.prog 20 74 = some (List.replicate 32 (.i .u8)) := by kernel_rfl
theorem sl_22 : sliceOf Tryz.prog 22 74 32 = true := by kernel_rfl
theorem un_22 : Tryz.prog.underlying 22 = some (.slice 74) := by kernel_rfl
theorem z_74 : zeroIs Tryz.prog 74 32 = true := by kernel_rfl
theorem qE {α : Type} {l : List α} {k : Nat} (h : k < l.length) : ∃ x, l[k]? = some x := ⟨_, List.getElem?_eq_getElem h⟩
def idxI (l : List ID) (x : ID) : Int := match l.idxOf? x with
 | some i => (i : Int)
 | none => -1
theorem idxI_found {l : List ID} {x y : ID} {k : Nat} (hk : l[k]? = some y) (hn : ∀ j, j < k → l[j]? ≠ some x) (e : x = y) : idxI l x = (k : Int) := by
 subst e;unfold idxI;have hlt := (List.getElem?_eq_some_iff.1 hk).1
 have : l.idxOf? x = some k := by
  rw [List.idxOf?_eq_some_iff];refine ⟨hlt, ?_, fun j hj => ?_⟩
  · have := (List.getElem?_eq_some_iff.1 hk).2; rw [this]
  · intro e; exact hn j hj (by rw [List.getElem?_eq_getElem af]; exact congrArg some e)
 rw [this]
theorem idxI_none {l : List ID} {x : ID} (hn : ∀ j, j < l.length → l[j]? ≠ some x) : idxI l x = -1 := by
 unfold idxI
 have : l.idxOf? x = none := by
  rw [List.idxOf?_eq_none_iff];intro hm;obtain ⟨j, hj, e⟩ := List.getElem_of_mem hm;exact hn j hj (by rw [List.getElem?_eq_getElem hj, e])
 rw [this]
theorem idxI_lt (l : List ID) (x : ID) : idxI l x < l.length ∧ -1 ≤ idxI l x := by
 unfold idxI;cases h : l.idxOf? x with
 | none => simp; omega
 | some k =>
  obtain ⟨hk, _⟩ := List.idxOf?_eq_some_iff.1 h;simp; omega
theorem idxI_mem (l : List ID) (x : ID) : 0 ≤ idxI l x ↔ x ∈ l := by
 unfold idxI;cases h : l.idxOf? x with
 | none => have := List.idxOf?_eq_none_iff.1 h; simp [this]
 | some k =>
  obtain ⟨hk, e, _⟩ := List.idxOf?_eq_some_iff.1 h;simp only [Int.natCast_nonneg, true_iff];rw [← e]; exact List.getElem_mem hk
theorem idxI_get {l : List ID} {x : ID} {k : Nat} (h : idxI l x = (k : Int)) : l[k]? = some x := by
 unfold idxI at h;cases hf : l.idxOf? x with
 | none => rw [hf] at h; simp at h
 | some j =>
  obtain ⟨hk, e, _⟩ := List.idxOf?_eq_some_iff.1 hf;rw [hf] at h;have : j = k := by simp at h; omega
  subst this;rw [List.getElem?_eq_getElem hk]; exact congrArg some e
theorem clone_id {c : World} {h : GH} {L : Own} {v : Value} {ls : List (List Value)} (hs : Sl h v 32 ls) (hsm : ls.length ≤ 1073741824) :
 Fun Tryz.prog c 27 #[v] h L (fun u _ L' => ∃ N, L' = N ++ L ∧ OS 74 32 u ls N) := by
 refine zA (N := 8) (args := [v]) Tryz.func27 ?_;refine eqNil un_22 hs (fun e4 => ?_) ?_
 ·
  refine ze rfl ?_;exact ⟨[], rfl, by subst e4; exact OS.nil _ _⟩
 ·
  refine buildSlice0 sl_22 ?_;intro v5 N5 hv5;refine qp sl_22 sl_22 z_74 aa aa kR (by simpa using hsm) ?_;intro v7 N7 hv7;refine ⟨_, kR.symm, ?_⟩;refine DoRet.r1 (.tmp rfl) (qh (List.Sublist.append_left kS _)) zl ?_;exact ⟨N7, rfl, by simpa using hv7⟩
theorem index_id {c : World} {h : GH} {L : Own} {v : Value} {l : List ID} {x : ID} (hs : RIds h v l) (hx : (idC x).length = 32) :
 Fun Tryz.prog c 79 #[v, idV x] h L (fun u _ L' => u = .int .i64 (idxI l x) ∧ L = L') := by
 have hsm := hs.small; rw [List.length_map] at hsm;refine zA (N := 19) (args := [v, idV x]) Tryz.func79 ?_;refine box_at rfl ?_;intro p3 h2 le1 hp3;replace hs := hs.mono le1;refine qm sl_22 aa ?_;refine qL (fun s0 nn s' h' L' => ∃ (k : Nat), s' = [(8, .int .i64 k)] ++ qR s0 [0, 3, 7] ∧ nn = l.length - k ∧ L = L' ∧ k ≤ l.length ∧ ∀ j, j < k → l[j]? ≠ some x) ⟨0, rfl, rfl, rfl, ?_⟩ zg zl zn ?_
 · exact ⟨Nat.zero_le _, fun j hj => absurd hj (Nat.not_lt_zero j)⟩
 rintro nn s1 h3 L_ le4 ⟨k, rfl, rfl, rfl, hk, hn⟩;replace hs := hs.mono le4; replace hp3 := hp3.mono le4;refine lssB (fun c9 => ?_) (fun c9 => ?_)
 ·
  have hkl : k < l.length := by omega
  obtain ⟨y, hy⟩ := qE hkl;refine DoDraw.intro mixed [0, 1, 2, 3, 4, 5] [] ae am ?_;refine qX ag_74 aa ag ?_;refine qi (k := _) sl_22 aa rfl aa ?_;intro p14 r14 hl14 hp14;refine qP ag_74 aa aa ?_;refine eqlI sh_id ia_id ef_id aa aa (fun c16 => ?_) (fun c16 => ?_)
  ·
   refine ⟨_, Fr.Sub.refl _, ?_⟩;refine ze rfl ?_;exact ⟨by rw [idxI_found hy hn c16], rfl⟩
  ·
   refine ⟨_, Fr.Sub.refl _, ?_⟩;refine qA ak ?_
   exact back (m := _) ⟨k + 1, rfl, rfl, rfl, by omega, fun j hj => by
    rcases Nat.lt_or_ge j k with h1 | h1
    · exact hn j h1
    · have : j = k := by omega
      subst this; rw [hy]; intro e; exact c16 (Option.some.inj e).symm⟩ af zg zl zn
 ·
  refine ze rfl ?_;have hk2 : k = l.length := by omega
  subst hk2;exact ⟨by rw [idxI_none hn], rfl⟩
theorem contains_id {c : World} {h : GH} {L : Own} {v : Value} {l : List ID} {x : ID} (hs : RIds h v l) (hx : (idC x).length = 32) :
 Fun Tryz.prog c 39 #[v, idV x] h L (fun u _ L' => u = .bool (decide (x ∈ l)) ∧ L = L') := by
 refine zA (N := 9) (args := [v, idV x]) Tryz.func39 ?_;refine box_at rfl ?_;intro p3 h2 le1 hp3;replace hs := hs.mono le1;refine qX ag_74 aa ag ?_;refine qc (index_id hs hx) ?_;rintro v7 h4 L_ le3 ⟨rfl, rfl⟩;refine geqB (fun c8 => ?_) (fun c8 => ?_)
 ·
  refine ze rfl ?_;exact ⟨by rw [decide_eq_true ((idxI_mem l x).1 af)], rfl⟩
 ·
  refine ze rfl ?_;exact ⟨by rw [decide_eq_false (fun e => absurd ((idxI_mem l x).2 e) af)], rfl⟩
end Go.Brd
namespace Go.Brd
open Go Go.Brd Go.Proofs
set_option linter.unusedVariables false
theorem ar_74 : arrayOf Tryz.prog 74 32 5 1 = true := by kernel_rfl
theorem sc_5 : scalar Tryz.prog 5 = true := by kernel_rfl
theorem find_none : Extern.findNext Tryz.f173 = none := by kernel_rfl
theorem find_cmp : Extern.find Tryz.f173 = some Extern.BytealgCompare.compare := by kernel_rfl
theorem cmp_id_iff {x y : List UInt8} : Lib.compareBytes x y = 0 ↔ x = y := by
 induction x generalizing y with
 | nil => cases y <;> simp [Lib.compareBytes]
 | cons a x ih =>
  cases y with
  | nil => simp [Lib.compareBytes]
  | cons b y =>
   simp only [Lib.compareBytes, List.cons.injEq];split
   · rename_i h; constructor
     · intro e; cases e
     · rintro ⟨rfl, _⟩; exact absurd h (UInt8.lt_irrefl a)
   · split
     · rename_i h; constructor
       · intro e; cases e
       · rintro ⟨rfl, _⟩; exact absurd h (UInt8.lt_irrefl a)
     · rename_i h1 h2
       have : a = b := UInt8.toNat_inj.1 (by rw [UInt8.lt_iff_toNat_lt] at h1 h2; omega);rw [ih]; simp [this]
theorem cmp_cases (x y : List UInt8) : Lib.compareBytes x y = -1 ∨ Lib.compareBytes x y = 0 ∨ Lib.compareBytes x y = 1 := by
 induction x generalizing y with
 | nil => cases y <;> simp [Lib.compareBytes]
 | cons a x ih => cases y with
  | nil => simp [Lib.compareBytes]
  | cons b y => simp only [Lib.compareBytes]; split; · simp
                split; · simp
                exact ih y
theorem cmp_skip : ∀ (k : Nat) (x y : List UInt8), x.take k = y.take k → x.length = y.length → Lib.compareBytes x y = Lib.compareBytes (x.drop k) (y.drop k)
 | 0, x, y, _, _ => by simp
 | k + 1, [], [], _, _ => by simp
 | k + 1, [], _ :: _, _, h => by simp at h
 | k + 1, _ :: _, [], _, h => by simp at h
 | k + 1, a :: x, b :: y, h, hl => by
  simp only [List.take_succ_cons, List.cons.injEq] at h;simp only [List.drop_succ_cons, Lib.compareBytes];rw [h.1, if_neg (UInt8.lt_irrefl b), if_neg (UInt8.lt_irrefl b)];exact cmp_skip k x y h.2 (by simpa using hl)
theorem cmp_at {k : Nat} {x y : List UInt8} {a b : UInt8} (h : x.take k = y.take k) (hl : x.length = y.length) (ha : x[k]? = some a) (hb : y[k]? = some b) : Lib.compareBytes x y = if a < b then -1 else if b < a then 1 else Lib.compareBytes (x.drop (k+1)) (y.drop (k+1)) := by
 obtain ⟨h1, e1⟩ := List.getElem?_eq_some_iff.1 ha;obtain ⟨h2, e2⟩ := List.getElem?_eq_some_iff.1 hb;rw [cmp_skip k x y h hl, List.drop_eq_getElem_cons h1, List.drop_eq_getElem_cons h2, e1, e2]; rfl
theorem take_snoc_eq {k : Nat} {x y : List UInt8} {a : UInt8} (h : x.take k = y.take k) (ha : x[k]? = some a) (hb : y[k]? = some a) : x.take (k+1) = y.take (k+1) := by
 rw [List.take_add_one, List.take_add_one, h, ha, hb]
theorem bytes_compare {c : World} {h : GH} {L : Own} {v u : Value} {x y : List UInt8} (hv : RBytes h v x) (hu : RBytes h u y) :
 Fun Tryz.prog c 111 #[v, u] h L (fun z _ L' => z = .int .i64 (Lib.compareBytes x y) ∧ L = L') := by
 refine zA (N := 8) (args := [v, u]) Tryz.func111 ?_;refine DoCall.ext (compare_ext Tryz.func173 rfl rfl find_none find_cmp hv hu) ?_;rintro v7 h7 L_ le7 ⟨rfl, rfl⟩;refine ze rfl ?_;exact ⟨rfl, rfl⟩
theorem digest_cmp {c : World} {h : GH} {L : Own} {x y : ID} (hx : (idC x).length = 32) (hy : (idC y).length = 32) :
 Fun Tryz.prog c 69 #[idV x, idV y] h L (fun z _ L' => z = .int .i64 (Lib.compareBytes x y) ∧ L = L') := by
 refine zA (N := 8) (args := [idV x, idV y]) Tryz.func69 ?_;refine box_at rfl ?_;intro p2 h2 le1 hp2;refine box_at rfl ?_;intro p3 h4 le3 hp3;replace hp2 := hp2.mono le3;refine DoDraw.intro mixed [0, 1, 2, 3] [] ae am ?_;refine slice_idX ar_74 aa aa ?_;intro v5 hv5;refine slice_idX ar_74 aa aa ?_;intro v6 hv6;refine qc (bytes_compare hv5 hv6) ?_;rintro v7 h6 L_ le5 ⟨rfl, rfl⟩;refine ⟨am, ?_⟩;refine ⟨_, Fr.Sub.refl _, ?_⟩;refine ze rfl ?_;exact ⟨rfl, rfl⟩
theorem ref_cmp {c : World} {h : GH} {L : Own} {x y : ID} (hx : (idC x).length = 32) (hy : (idC y).length = 32) :
 Fun Tryz.prog c 40 #[idV x, idV y] h L (fun z _ L' => z = .int .i64 (Lib.compareBytes x y) ∧ L = L') := by
 refine zA (N := 24) (args := [idV x, idV y]) Tryz.func40 ?_;refine box_at rfl ?_;intro p2 h2 le1 hp2;refine box_at rfl ?_;intro p3 h4 le3 hp3;replace hp2 := hp2.mono le3;refine qL (fun s0 nn s' h' L' => ∃ (k : Nat), s' = [(5, .int .i64 k)] ++ qR s0 [2, 3] ∧ nn = 32 - k ∧ L = L' ∧ k ≤ 32 ∧ x.take k = y.take k) ⟨0, rfl, rfl, rfl, ?_⟩ zg zl zn ?_
 · exact ⟨Nat.zero_le _, rfl⟩
 rintro nn s1 h5 L_ le6 ⟨k, rfl, rfl, rfl, hk, he⟩;replace hp2 := hp2.mono le6; replace hp3 := hp3.mono le6;refine lssB (fun c7 => ?_) (fun c7 => ?_)
 ·
  have hkl : k < 32 := by omega
  rw [idC_length] at hx hy;obtain ⟨a, ha⟩ : ∃ a, x[k]? = some a := ⟨_, List.getElem?_eq_getElem af⟩;obtain ⟨b, hb⟩ : ∃ b, y[k]? = some b := ⟨_, List.getElem?_eq_getElem af⟩;have hcm := cmp_at he af ha hb;refine DoDraw.intro mixed [0, 1, 2, 3, 4, 5, 6] [] ae am ?_;refine index_idX ar_74 aa rfl hkl ha ?_;intro p11 r11 hp11;refine ql sc_5 aa ?_;refine index_idX ar_74 aa rfl hkl hb ?_;intro p14 r14 hp14;refine ql sc_5 aa ?_;refine lssB (fun c16 => ?_) (fun c16 => ?_)
  ·
   refine ⟨_, Fr.Sub.refl _, ?_⟩;refine ze rfl ?_;have : a < b := by rw [UInt8.lt_iff_toNat_lt]; omega
   exact ⟨by rw [hcm, if_pos this], rfl⟩
  ·
   refine ⟨_, Fr.Sub.refl _, ?_⟩;refine DoDraw.intro mixed [0, 1, 2, 3, 4, 5, 6] [] ae am ?_;refine index_idX ar_74 aa rfl hkl ha ?_;intro p18 r18 hp18;refine ql sc_5 aa ?_;refine index_idX ar_74 aa rfl hkl hb ?_;intro p21 r21 hp21;refine ql sc_5 aa ?_;refine gtrB (fun c23 => ?_) (fun c23 => ?_)
   ·
    refine ⟨_, Fr.Sub.refl _, ?_⟩;refine ze rfl ?_;have h1 : ¬ a < b := by rw [UInt8.lt_iff_toNat_lt]; omega
    have h2 : b < a := by rw [UInt8.lt_iff_toNat_lt]; omega
    exact ⟨by rw [hcm, if_neg h1, if_pos h2], rfl⟩
   ·
    refine ⟨_, Fr.Sub.refl _, ?_⟩;refine qA ak ?_;have hab : a = b := UInt8.toNat_inj.1 af;exact back (m := _) ⟨k + 1, rfl, rfl, rfl, by omega, take_snoc_eq he ha (by rw [hab]; exact hb)⟩ af zg zl zn
 ·
  refine ze rfl ?_;have hk2 : k = 32 := by omega
  subst hk2;rw [idC_length] at hx hy;have e1 : x.take 32 = x := List.take_of_length_le af;have e2 : y.take 32 = y := List.take_of_length_le af;rw [e1, e2] at he;exact ⟨by rw [cmp_id_iff.2 he], rfl⟩
end Go.Brd
namespace Go.Brd
open Go Go.Brd Go.Proofs
set_option linter.unusedVariables false
def risB : List ID → Bool
 | x :: y :: r => decide (Lib.compareBytes x y < 0) && risB (y :: r)
 | _ => true
theorem risB_false {l : List ID} {k : Nat} {x y : ID} (hx : l[k]? = some x) (hy : l[k+1]? = some y) (h : ¬ Lib.compareBytes x y < 0) : risB l = false := by
 induction k generalizing l with
 | zero =>
  match l, hx, hy with
  | a :: b :: r, hx, hy => simp at hx hy; subst hx; subst hy; simp [risB, h]
 | succ k ih =>
  match l, hx, hy with
  | [a], hx, hy => simp at hx
  | a :: b :: r, hx, hy =>
   have := ih (l := b :: r) (by simpa using hx) (by simpa using hy);simp [risB, this]
theorem risB_true {l : List ID} (h : ∀ k x y, l[k]? = some x → l[k+1]? = some y → Lib.compareBytes x y < 0) : risB l = true := by
 induction l with
 | nil => rfl
 | cons a r ih =>
  match r, ih, h with
  | [], _, _ => rfl
  | b :: r, ih, h =>
   simp only [risB, Bool.and_eq_true, decide_eq_true_eq];exact ⟨h 0 a b rfl rfl, ih fun k x y hx hy => h (k+1) x y (by simpa using hx) (by simpa using hy)⟩
theorem list_ext_take {l m : List ID} (hl : l.length = m.length) (h : ∀ j, j < l.length → l[j]? = m[j]?) : l = m := by
 apply List.ext_getElem? ; intro i;rcases Nat.lt_or_ge i l.length with h1 | h1
 · exact h i h1
 · rw [List.getElem?_eq_none h1, List.getElem?_eq_none af]
theorem ref_at {c : World} {h : GH} {L : Own} {v : Value} {l : List ID} {x : ID} (hs : RIds h v l) (hx : (idC x).length = 32) :
 Fun Tryz.prog c 24 #[v, idV x] h L (fun u _ L' => u = .int .i64 (idxI l x) ∧ L = L') := by
 have hsm := hs.small; rw [List.length_map] at hsm;refine zA (N := 19) (args := [v, idV x]) Tryz.func24 ?_;refine box_at rfl ?_;intro p3 h2 le1 hp3;replace hs := hs.mono le1;refine qL (fun s0 nn s' h' L' => ∃ (k : Nat), s' = [(5, .int .i64 k)] ++ qR s0 [0, 3] ∧ nn = l.length - k ∧ L = L' ∧ k ≤ l.length ∧ ∀ j, j < k → l[j]? ≠ some x) ⟨0, rfl, rfl, rfl, ?_⟩ zg zl zn ?_
 · exact ⟨Nat.zero_le _, fun j hj => absurd hj (Nat.not_lt_zero j)⟩
 rintro nn s1 h3 L_ le4 ⟨k, rfl, rfl, rfl, hk, hn⟩;replace hs := hs.mono le4; replace hp3 := hp3.mono le4;refine qm sl_22 aa ?_;refine lssB (fun c9 => ?_) (fun c9 => ?_)
 ·
  have hkl : k < l.length := by omega
  obtain ⟨y, hy⟩ := qE hkl;refine DoDraw.intro mixed [0, 1, 2, 3, 4, 5] [] ae am ?_;refine qi (k := _) sl_22 aa rfl aa ?_;intro p14 r14 hl14 hp14;refine qP ag_74 aa aa ?_;refine qX ag_74 aa ag ?_;refine eqlI sh_id ia_id ef_id aa aa (fun c17 => ?_) (fun c17 => ?_)
  ·
   refine ⟨_, Fr.Sub.refl _, ?_⟩;refine ze rfl ?_;exact ⟨by rw [idxI_found hy hn c17.symm], rfl⟩
  ·
   refine ⟨_, Fr.Sub.refl _, ?_⟩;refine qA ak ?_
   exact back (m := _) ⟨k + 1, rfl, rfl, rfl, by omega, fun j hj => by
    rcases Nat.lt_or_ge j k with h1 | h1
    · exact hn j h1
    · have : j = k := by omega
      subst this; rw [hy]; intro e; exact c17 (Option.some.inj e)⟩ af zg zl zn
 ·
  refine ze rfl ?_;have hk2 : k = l.length := by omega
  subst hk2;exact ⟨by rw [idxI_none hn], rfl⟩
theorem ref_all {c : World} {h : GH} {L : Own} {v u : Value} {l m : List ID} (hs : RIds h v l) (hu : RIds h u m) :
 Fun Tryz.prog c 6 #[v, u] h L (fun z _ L' => z = .bool (decide (∀ x ∈ m, x ∈ l)) ∧ L = L') := by
 have hsm := hu.small; rw [List.length_map] at hsm;refine zA (N := 19) (args := [v, u]) Tryz.func6 ?_;refine qL (fun s0 nn s' h' L' => ∃ (k : Nat), s' = [(5, .int .i64 k)] ++ qR s0 [0, 1] ∧ nn = m.length - k ∧ L = L' ∧ k ≤ m.length ∧ ∀ j y, j < k → m[j]? = some y → y ∈ l) ⟨0, rfl, rfl, rfl, ?_⟩ zg zl zn ?_
 · exact ⟨Nat.zero_le _, fun j _ hj => absurd hj (Nat.not_lt_zero j)⟩
 rintro nn s1 h1 L_ le2 ⟨k, rfl, rfl, rfl, hk, hn⟩;replace hs := hs.mono le2; replace hu := hu.mono le2;refine qm sl_22 aa ?_;refine lssB (fun c9 => ?_) (fun c9 => ?_)
 ·
  have hkl : k < m.length := by omega
  obtain ⟨y, hy⟩ := qE hkl;refine qi (k := _) sl_22 aa rfl aa ?_;intro p15 r15 hl15 hp15;refine qP ag_74 aa aa ?_;refine qc (ref_at hs aa) ?_;rintro v17 h4 L_ le3 ⟨rfl, rfl⟩;refine lssB (fun c18 => ?_) (fun c18 => ?_)
  ·
   refine ze rfl ?_;exact ⟨by rw [decide_eq_false (fun e => absurd ((idxI_mem l y).2 (e y (List.mem_of_getElem? hy))) af)], rfl⟩
  ·
   refine qA ak ?_
   exact back (m := _) ⟨k + 1, rfl, rfl, rfl, by omega, fun j z hj hz => by
    rcases Nat.lt_or_ge j k with h1 | h1
    · exact hn j z h1 hz
    · have : j = k := by omega
      subst this; rw [hy] at hz; cases hz; exact (idxI_mem l y).1 af⟩ af zg zl zn
 ·
  refine ze rfl ?_;have hk2 : k = m.length := by omega
  subst hk2;exact ⟨by rw [decide_eq_true (fun x hx => by obtain ⟨j, hj, e⟩ := List.getElem_of_mem hx; exact hn j x hj (by rw [List.getElem?_eq_getElem hj, e]))], rfl⟩
theorem same_ids {c : World} {h : GH} {L : Own} {v u : Value} {l m : List ID} (hs : RIds h v l) (hu : RIds h u m) :
 Fun Tryz.prog c 12 #[v, u] h L (fun z _ L' => z = .bool (decide (l = m)) ∧ L = L') := by
 have hsm := hs.small; rw [List.length_map] at hsm;refine zA (N := 26) (args := [v, u]) Tryz.func12 ?_;refine qm sl_22 aa ?_;refine qm sl_22 aa ?_;refine neqB (fun c10 => ?_) (fun c10 => ?_)
 ·
  refine ze rfl ?_;exact ⟨by rw [decide_eq_false (fun e => c10 (by rw [e]))], rfl⟩
 ·
  refine qL (fun s0 nn s' h' L' => ∃ (k : Nat), s' = [(5, .int .i64 k)] ++ qR s0 [0, 1] ∧ nn = l.length - k ∧ L = L' ∧ k ≤ l.length ∧ ∀ j, j < k → l[j]? = m[j]?) ⟨0, rfl, rfl, rfl, ?_⟩ zg zl zn ?_
  · exact ⟨Nat.zero_le _, fun j hj => absurd hj (Nat.not_lt_zero j)⟩
  rintro nn s1 h1 L_ le2 ⟨k, rfl, rfl, rfl, hk, hn⟩;replace hs := hs.mono le2; replace hu := hu.mono le2;refine qm sl_22 aa ?_;refine lssB (fun c14 => ?_) (fun c14 => ?_)
  ·
   have hkl : k < l.length := by omega
   obtain ⟨x, hx⟩ := qE hkl;obtain ⟨y, hy⟩ := qE (l := m) (k := k) af;refine DoDraw.intro mixed [0, 1, 2, 3, 4, 5, 6, 7, 8] [] ae am ?_;refine qi (k := _) sl_22 aa rfl aa ?_;intro p19 r19 hl19 hp19;refine qP ag_74 aa aa ?_;refine qi (k := _) sl_22 aa rfl aa ?_;intro p23 r23 hl23 hp23;refine qP ag_74 aa aa ?_;refine neqI sh_id ia_id ef_id aa aa (fun c25 => ?_) (fun c25 => ?_)
   ·
    refine ⟨_, Fr.Sub.refl _, ?_⟩;refine ze rfl ?_;exact ⟨by rw [decide_eq_false (fun e => c25 (Option.some.inj (by rw [← hx, ← hy, e])))], rfl⟩
   ·
    refine ⟨_, Fr.Sub.refl _, ?_⟩;refine qA ak ?_
    exact back (m := _) ⟨k + 1, rfl, rfl, rfl, by omega, fun j hj => by
     rcases Nat.lt_or_ge j k with h1 | h1
     · exact hn j h1
     · have : j = k := by omega
       subst this; rw [hx, hy, c25]⟩ af zg zl zn
  ·
   refine ze rfl ?_;have hk2 : k = l.length := by omega
   subst hk2;exact ⟨by rw [decide_eq_true (list_ext_take af hn)], rfl⟩
theorem equal_ids {c : World} {h : GH} {L : Own} {v u : Value} {l m : List ID} (hs : RIds h v l) (hu : RIds h u m) :
 Fun Tryz.prog c 59 #[v, u] h L (fun z _ L' => z = .bool (decide (l = m)) ∧ L = L') := by
 have hsm := hs.small; rw [List.length_map] at hsm;refine zA (N := 26) (args := [v, u]) Tryz.func59 ?_;refine qm sl_22 aa ?_;refine qm sl_22 aa ?_;refine neqB (fun c10 => ?_) (fun c10 => ?_)
 ·
  refine ze rfl ?_;exact ⟨by rw [decide_eq_false (fun e => c10 (by rw [e]))], rfl⟩
 ·
  refine qm sl_22 aa ?_;refine qL (fun s0 nn s' h' L' => ∃ (k : Nat), s' = [(13, .int .i64 k)] ++ qR s0 [0, 1, 12] ∧ nn = l.length - k ∧ L = L' ∧ k ≤ l.length ∧ ∀ j, j < k → l[j]? = m[j]?) ⟨0, rfl, rfl, rfl, ?_⟩ zg zl zn ?_
  · exact ⟨Nat.zero_le _, fun j hj => absurd hj (Nat.not_lt_zero j)⟩
  rintro nn s1 h1 L_ le2 ⟨k, rfl, rfl, rfl, hk, hn⟩;replace hs := hs.mono le2; replace hu := hu.mono le2;refine lssB (fun c14 => ?_) (fun c14 => ?_)
  ·
   have hkl : k < l.length := by omega
   obtain ⟨x, hx⟩ := qE hkl;obtain ⟨y, hy⟩ := qE (l := m) (k := k) af;refine DoDraw.intro mixed [0, 1, 2, 3, 4, 5, 6, 7, 8] [] ae am ?_;refine qi (k := _) sl_22 aa rfl aa ?_;intro p18 r18 hl18 hp18;refine qP ag_74 aa aa ?_;refine qi (k := _) sl_22 aa rfl aa ?_;intro p22 r22 hl22 hp22;refine qP ag_74 aa aa ?_;refine neqI sh_id ia_id ef_id aa aa (fun c24 => ?_) (fun c24 => ?_)
   ·
    refine ⟨_, Fr.Sub.refl _, ?_⟩;refine ze rfl ?_;exact ⟨by rw [decide_eq_false (fun e => c24 (Option.some.inj (by rw [← hx, ← hy, e])))], rfl⟩
   ·
    refine ⟨_, Fr.Sub.refl _, ?_⟩;refine qA ak ?_
    exact back (m := _) ⟨k + 1, rfl, rfl, rfl, by omega, fun j hj => by
     rcases Nat.lt_or_ge j k with h1 | h1
     · exact hn j h1
     · have : j = k := by omega
       subst this; rw [hx, hy, c24]⟩ af zg zl zn
  ·
   refine ze rfl ?_;have hk2 : k = l.length := by omega
   subst hk2;exact ⟨by rw [decide_eq_true (list_ext_take af hn)], rfl⟩
theorem ref_rising {c : World} {h : GH} {L : Own} {v : Value} {l : List ID} (hs : RIds h v l) :
 Fun Tryz.prog c 107 #[v] h L (fun z _ L' => z = .bool (risB l) ∧ L = L') := by
 have hsm := hs.small; rw [List.length_map] at hsm;refine zA (N := 21) (args := [v]) Tryz.func107 ?_;refine qL (fun s0 nn s' h' L' => ∃ (k : Nat), s' = [(3, .int .i64 k)] ++ qR s0 [0] ∧ nn = l.length + 1 - k ∧ L = L' ∧ 1 ≤ k ∧ k ≤ l.length + 1 ∧ ∀ j x y, j + 1 < k → l[j]? = some x → l[j+1]? = some y → Lib.compareBytes x y < 0) ⟨1, rfl, rfl, rfl, ?_⟩ zg zl zn ?_
 · exact ⟨Nat.le_refl _, by omega, fun j _ _ hj => absurd hj af⟩
 rintro nn s1 h1 L_ le2 ⟨k, rfl, rfl, rfl, hk1, hk, hn⟩;replace hs := hs.mono le2;refine qm sl_22 aa ?_;refine lssB (fun c7 => ?_) (fun c7 => ?_)
 ·
  have hkl : k < l.length := by omega
  obtain ⟨x, hx⟩ := qE (l := l) (k := k - 1) af;obtain ⟨y, hy⟩ := qE hkl;refine DoDraw.intro mixed [0, 1, 2, 3, 4, 5, 6, 7, 8, 9, 10] [] ae am ?_;refine sub_i64 ak ?_;refine qi (k := k - 1) sl_22 aa af hx ?_;intro p13 r13 hl13 hp13;refine qP ag_74 aa aa ?_;refine qi (k := k) sl_22 aa rfl hy ?_;intro p17 r17 hl17 hp17;refine qP ag_74 aa aa ?_;refine qc (ref_cmp hl13 hl17) ?_;rintro v19 h4 L_ le3 ⟨rfl, rfl⟩;refine ⟨am, ?_⟩;refine geqB (fun c20 => ?_) (fun c20 => ?_)
  ·
   refine ⟨_, Fr.Sub.refl _, ?_⟩;refine ze rfl ?_;exact ⟨by rw [risB_false hx (by rw [Nat.sub_add_cancel hk1]; exact hy) af], rfl⟩
  ·
   refine ⟨_, Fr.Sub.refl _, ?_⟩;refine qA ak ?_
   exact back (m := _) ⟨k + 1, rfl, rfl, rfl, by omega, by omega, fun j x2 y2 hj hx2 hy2 => by
    rcases Nat.lt_or_ge (j + 1) k with h1 | h1
    · exact hn j x2 y2 h1 hx2 hy2
    · have : j = k - 1 := by omega
      subst this; rw [Nat.sub_add_cancel hk1, hy] at hy2; rw [hx] at hx2; cases hx2; cases hy2; omega⟩ af zg zl zn
 ·
  refine ze rfl ?_;exact ⟨by rw [risB_true fun j x y hx hy => hn j x y (by have := (List.getElem?_eq_some_iff.1 hy).1; omega) hx hy], rfl⟩
end Go.Brd
namespace Go.Brd
open Go Go.Brd Go.Proofs
set_option linter.unusedVariables false
theorem it_52_53 : intT Tryz.prog 52 53 .u32 = true := by kernel_rfl
theorem it_53_52 : intT Tryz.prog 53 52 .u64 = true := by kernel_rfl
theorem sc_53 : scalar Tryz.prog 53 = true := by kernel_rfl
theorem si_53 : sizeIs Tryz.prog 53 1 = true := by kernel_rfl
theorem sl_239 : sliceOf Tryz.prog 239 53 1 = true := by kernel_rfl
theorem z_53 : zeroIs Tryz.prog 53 1 = true := by kernel_rfl
theorem zc_53 : zeroC Tryz.prog 53 = some ([.int .u32 0]) := by kernel_rfl
def u32C (n : Nat) : List Value := [.int .u32 (n : Int)]
abbrev RU32 (h : GH) (v : Value) (l : List Nat) : Prop := Sl h v 1 (l.map u32C)
def prodM (m : Nat) (l : List Nat) : Nat := l.foldl (fun a x => a * x % m) 1
theorem prodM_snoc (m : Nat) (l : List Nat) (x : Nat) : prodM m (l ++ [x]) = prodM m l * x % m := by simp [prodM]
theorem foldl_lt {m : Nat} (hm : 1 < m) : ∀ (l : List Nat) (a : Nat), a < m → l.foldl (fun a x => a * x % m) a < m
 | [], a, h => h
 | x :: l, a, h => foldl_lt hm l _ (Nat.mod_lt _ af)
theorem prodM_lt {m : Nat} (hm : 1 < m) (l : List Nat) : prodM m l < m := foldl_lt hm l 1 hm
theorem mulMod_lt {a b m : Nat} (h : 0 < m) (hm : m ≤ 4294967296) : a * b % m < 4294967296 := Nat.lt_of_lt_of_le (Nat.mod_lt _ h) hm
theorem mul32 {a b : Nat} (ha : a < 4294967296) (hb : b < 4294967296) : a * b < 18446744073709551616 := by
 calc a * b ≤ 4294967295 * 4294967295 := Nat.mul_le_mul af af
  _ < _ := by decide
theorem sub_i64n {P : Program} {c : World} {h : GH} {L : Own} {KR : Value → Prop} {t : TypeId} {x y : Operand} {a b : Nat} (hle : b ≤ a) (ha : a < 9223372036854775808) (hk : KR (.int .i64 ((a - b : Nat) : Int))) : DoR P c (eqG .sub t x y (.int .i64 (a : Int)) (.int .i64 (b : Int))) h L KR :=
 sub_i64 ak (by rw [show (a : Int) - (b : Int) = ((a - b : Nat) : Int) by omega]; exact hk)
theorem take_snoc {α : Type} {l : List α} {k : Nat} {x : α} (h : l[k]? = some x) : l.take (k + 1) = l.take k ++ [x] := by rw [List.take_add_one, h]; rfl
def powM (a n : Nat) : Nat := a ^ n % 1000000007
theorem powM_step (a n i : Nat) : powM a (n / 2 ^ i) = if n / 2 ^ i % 2 = 1 then powM a (n / 2 ^ (i + 1)) * powM a (n / 2 ^ (i + 1)) % 1000000007 * a % 1000000007 else powM a (n / 2 ^ (i + 1)) * powM a (n / 2 ^ (i + 1)) % 1000000007 := by
 have e : n / 2 ^ (i + 1) = n / 2 ^ i / 2 := by rw [Nat.pow_succ, Nat.div_div_eq_div_mul]
 rw [e]
 generalize n / 2 ^ i = q
 have h2 : q = 2 * (q / 2) + q % 2 := by omega
 unfold powM;split
 · rename_i h
   conv => lhs; rw [h2, h, Nat.pow_succ, Nat.mul_comm 2, Nat.pow_mul, Nat.pow_two]
   simp [Nat.mul_mod]
 · rename_i h
   have h3 : q % 2 = 0 := by omega
   conv => lhs; rw [h2, h3, Nat.add_zero, Nat.mul_comm 2, Nat.pow_mul, Nat.pow_two]
   simp [Nat.mul_mod]
theorem sign_check {c : World} {h : GH} {L : Own} {n : Nat} (hn : n < 4294967296) :
 Fun Tryz.prog c 86 #[.int .u32 (n : Int)] h L (fun u _ L' => u = .int .i64 (if 1 ≤ n ∧ n < 500000003 then 0 else 2) ∧ L = L') := by
 refine zA (N := 6) (args := [.int .u32 (n : Int)]) Tryz.func86 ?_;refine sub_u32w (b := 1) ah ?_;refine geqB (fun c5 => ?_) (fun c5 => ?_)
 ·
  refine ze rfl ?_;exact ⟨by rw [if_neg af], rfl⟩
 ·
  refine ze rfl ?_;exact ⟨by rw [if_pos af], rfl⟩
theorem group_mul {c : World} {h : GH} {L : Own} {v : Value} {l : List Nat} {m : Nat} (hm : 1 < m) (hm2 : m ≤ 4294967296) (hs : RU32 h v l) (hl : ∀ x ∈ l, x < 4294967296) :
 Fun Tryz.prog c 149 #[.int .u64 (m : Int), v] h L (fun u _ L' => u = .int .u32 (prodM m l : Nat) ∧ L = L') := by
 have hsm := hs.small; rw [List.length_map] at hsm;refine zA (N := 23) (args := [.int .u64 (m : Int), v]) Tryz.func149 ?_;refine qm sl_239 aa ?_;refine qL (fun s0 nn s' h' L' => ∃ (k : Nat), s' = [(5, .int .u64 (prodM m (l.take k) : Nat)), (10, .int .i64 k)] ++ qR s0 [0, 8, 9] ∧ nn = l.length - k ∧ L = L' ∧ k ≤ l.length) ⟨0, rfl, rfl, rfl, Nat.zero_le _⟩ zg zl zn ?_;rintro nn s1 h1 L_ le2 ⟨k, rfl, rfl, rfl, hk⟩;replace hs := hs.mono le2;refine lssB (fun c11 => ?_) (fun c11 => ?_)
 ·
  have hkl : k < l.length := by omega
  obtain ⟨x, hx⟩ : ∃ x, l[k]? = some x := ⟨_, List.getElem?_eq_getElem hkl⟩;have hxl := hl x (List.mem_of_getElem? hx);have hpl := prodM_lt hm (l.take k);refine qi (k := _) sl_239 aa rfl aa ?_;intro p12 r12 hl12 hp12;refine ql sc_53 aa ?_;refine conv_u64 it_53_52 af ?_;refine mul_u64n (mul32 (a := prodM m (l.take k)) (b := x) af hxl) ?_;refine rem_nat af ?_;refine qA ak ?_;exact back (m := _) ⟨k + 1, by rw [take_snoc hx, prodM_snoc], rfl, rfl, by omega⟩ af zg zl zn
 ·
  refine conv_u32 it_52_53 ?_;refine ze rfl ?_;have hk2 : k = l.length := by omega
  subst hk2;have := prodM_lt hm l;exact ⟨by rw [List.take_length, Nat.mod_eq_of_lt af], rfl⟩
theorem group_pow1 {c : World} {h : GH} {L : Own} {b a : Nat} (ha : a < 4294967296) :
 Fun Tryz.prog c 189 #[.pointer (some ⟨b, 0, none⟩)] h ((b, .cells [.int .u32 (a : Int)].toArray 53 (0, 0)) :: L) (fun _ _ L' => (b, .cells [.int .u32 ((a * a % 1000000007 : Nat) : Int)].toArray 53 (0, 0)) :: L = L') := by
 refine zA (N := 5) (args := [.pointer (some ⟨b, 0, none⟩)]) Tryz.func189 ?_;refine qO sc_53 kH an ?_;refine qO sc_53 kH an ?_;refine buildSliceN (ls := [[_], [_]]) sl_239 zc_53 (qy ac (qy ac Parts.nil)) rfl rfl (all2 rfl rfl) (all2 ad ad) ah ah ?_;intro v3 h2 le1 hv3;refine qc (group_mul (l := [a, a]) (m := 1000000007) ah ah hv3 (all2 ha ha)) ?_;rintro v4 h4 L_ le3 ⟨rfl, rfl⟩;refine kB si_53 ac ai ad kR ab rfl kR.symm ?_;refine DoRet.none (qh (zv kS)) zl ?_;show _ = _;simp [over, prodM]
theorem group_pow {c : World} {h : GH} {L : Own} {a n : Nat} (ha : a < 4294967296) (hn : n < 18446744073709551616) :
 Fun Tryz.prog c 140 #[.int .u32 (a : Int), .int .u64 (n : Int)] h L (fun u _ L' => u = .int .u32 (powM a n : Nat) ∧ L = L') := by
 refine zA (N := 26) (args := [.int .u32 (a : Int), .int .u64 (n : Int)]) Tryz.func140 ?_;refine qa zc_53 ?_;intro b5;refine kB si_53 ac ai ad kR ab rfl kR.symm ?_;refine qL (fun s0 nn s' h' L' => ∃ (k : Nat), s' = [(9, .int .i64 k)] ++ qR s0 [0, 1, 5, 6] ∧ nn = 64 - k ∧ (b5, .cells [.int .u32 ((powM a (n / 2 ^ (64 - k)) : Nat) : Int)].toArray 53 (0, 0)) :: L = L' ∧ k ≤ 64) ⟨0, rfl, rfl, by rw [Nat.sub_zero, Nat.div_eq_of_lt af]; rfl, Nat.zero_le _⟩ zg zl zn ?_;rintro nn s1 h1 L_ le2 ⟨k, rfl, rfl, rfl, hk⟩;refine lssB (fun c10 => ?_) (fun c10 => ?_)
 ·
  have hkl : k < 64 := by omega
  have hq : powM a (n / 2 ^ (64 - k)) < 1000000007 := Nat.mod_lt _ ah;have hst := powM_step a n (63 - k);rw [show 63 - k + 1 = 64 - k by omega] at hst;refine DoCall.clo (group_pow1 af) ?_;rintro v13 h4 L_ le3 rfl;refine sub_i64n (a := 63) af ah ?_;refine shr_nat (by show _ ≤ 64; omega) ?_;refine and_u64 (b := 1) (Nat.lt_of_le_of_lt (Nat.div_le_self _ _) hn) ah ?_;rw [Nat.and_one_is_mod];refine eqlB (fun c19 => ?_) (fun c19 => ?_)
  ·
   refine qO sc_53 kH an ?_;refine buildSliceN (ls := [[_], [_]]) sl_239 zc_53 (qy ac (qy ac Parts.nil)) rfl rfl (all2 rfl rfl) (all2 ad ad) ah ah ?_;intro v22 h6 le5 hv22;refine qc (group_mul (l := [_, a]) (m := 1000000007) ah ah hv22 (all2 (Nat.lt_trans (Nat.mod_lt _ ah) ah) ha)) ?_;rintro v23 h8 L_ le7 ⟨rfl, rfl⟩;refine kB si_53 ac ai ad kR ab rfl kR.symm ?_;refine qA ak ?_;exact back (m := _) ⟨k + 1, rfl, rfl, by rw [show 64 - (k + 1) = 63 - k by omega, hst, if_pos af]; simp [over, prodM], by omega⟩ af zg zl zn
  ·
   refine qA ak ?_;exact back (m := _) ⟨k + 1, rfl, rfl, by rw [show 64 - (k + 1) = 63 - k by omega, hst, if_neg af], by omega⟩ af zg zl zn
 ·
  refine qO sc_53 kH an ?_;refine DoRet.r1 (.tmp rfl) (qh (zu kS)) zl ?_;have hk2 : k = 64 := by omega
  subst hk2;exact ⟨by simp, rfl⟩
theorem group_base {c : World} {h : GH} {L : Own} {n : Nat} (hn : n < 18446744073709551616) :
 Fun Tryz.prog c 87 #[.int .u64 (n : Int)] h L (fun u _ L' => u = .int .u32 (powM 4 n : Nat) ∧ L = L') := by
 refine zA (N := 5) (args := [.int .u64 (n : Int)]) Tryz.func87 ?_;refine qc (group_pow (a := 4) ah hn) ?_;rintro v4 h2 L_ le1 ⟨rfl, rfl⟩;refine ze rfl ?_;exact ⟨rfl, rfl⟩
def isG (a : Nat) : Bool := decide (0 < a ∧ a < 1000000007) && decide (powM a 500000003 = 1)
theorem powM_lt (a n : Nat) : powM a n < 1000000007 := Nat.mod_lt _ ah
theorem isG_lt {a : Nat} (h : isG a = true) : a < 1000000007 := by simp [isG] at h; exact h.1.2
theorem group_is {c : World} {h : GH} {L : Own} {a : Nat} (ha : a < 4294967296) :
 Fun Tryz.prog c 142 #[.int .u32 (a : Int)] h L (fun u _ L' => u = .bool (isG a) ∧ L = L') := by
 refine zA (N := 14) (args := [.int .u32 (a : Int)]) Tryz.func142 ?_;refine gtrB (fun c4 => ?_) (fun c4 => ?_)
 ·
  refine lssB (fun c7 => ?_) (fun c7 => ?_)
  ·
   refine qc (group_pow (n := 500000003) ha ah) ?_;rintro v11 h2 L_ le1 ⟨rfl, rfl⟩;refine eqlB (fun c12 => ?_) (fun c12 => ?_)
   ·
    refine ze rfl ?_;have hp : powM a 500000003 = 1 := by omega
    exact ⟨by simp [isG, hp]; omega, rfl⟩
   ·
    refine ze rfl ?_;have hp : ¬ powM a 500000003 = 1 := by omega
    exact ⟨by simp [isG, hp], rfl⟩
  ·
   refine ze rfl ?_;have hp : ¬ a < 1000000007 := by omega
   exact ⟨by simp [isG, hp], rfl⟩
 ·
  refine ze rfl ?_;have hp : a = 0 := by omega
  exact ⟨by simp [isG, hp], rfl⟩
theorem group_times {c : World} {h : GH} {L : Own} {a b : Nat} (ha : a < 4294967296) (hb : b < 4294967296) :
 Fun Tryz.prog c 96 #[.int .u32 (a : Int), .int .u32 (b : Int)] h L (fun u _ L' => u = (if a < 500000003 ∧ b < 500000003 then .tuple #[.int .u32 (a * b % 500000003 : Nat), .int .i64 0] else .tuple #[.int .u32 (0 : Nat), .int .i64 2]) ∧ L = L') := by
 refine zA (N := 14) (args := [.int .u32 (a : Int), .int .u32 (b : Int)]) Tryz.func96 ?_;refine max_int ?_;refine geqB (fun c9 => ?_) (fun c9 => ?_)
 ·
  refine DoRet.r2 (.tmp rfl) (.tmp rfl) zg zl ?_;exact ⟨by rw [if_neg af]; rfl, rfl⟩
 ·
  refine buildSliceN (ls := [[_], [_]]) sl_239 zc_53 (qy ac (qy ac Parts.nil)) rfl rfl (all2 rfl rfl) (all2 ad ad) ah ah ?_;intro v12 h2 le1 hv12;refine qc (group_mul (l := [a, b]) (m := 500000003) ah ah hv12 (all2 ha hb)) ?_;rintro v13 h4 L_ le3 ⟨rfl, rfl⟩;refine DoRet.r2 (.tmp rfl) (.tmp rfl) zg zl ?_;exact ⟨by rw [if_pos af]; simp [prodM], rfl⟩
theorem group_plus {c : World} {h : GH} {L : Own} {a b : Nat} (ha : a < 4294967296) (hb : b < 4294967296) :
 Fun Tryz.prog c 97 #[.int .u32 (a : Int), .int .u32 (b : Int)] h L (fun u _ L' => u = (if a < 500000003 ∧ b < 500000003 then .tuple #[.int .u32 ((a + b) % 500000003 : Nat), .int .i64 0] else .tuple #[.int .u32 (0 : Nat), .int .i64 2]) ∧ L = L') := by
 refine zA (N := 14) (args := [.int .u32 (a : Int), .int .u32 (b : Int)]) Tryz.func97 ?_;refine max_int ?_;refine geqB (fun c9 => ?_) (fun c9 => ?_)
 ·
  refine DoRet.r2 (.tmp rfl) (.tmp rfl) zg zl ?_;exact ⟨by rw [if_neg af]; rfl, rfl⟩
 ·
  refine add_u32n af ?_;refine rem_nat (b := 500000003) af ?_;refine DoRet.r2 (.tmp rfl) (.tmp rfl) zg zl ?_;exact ⟨by rw [if_pos af], rfl⟩
theorem group_all {c : World} {h : GH} {L : Own} {v : Value} {l : List Nat} (hs : RU32 h v l) (hl : ∀ x ∈ l, x < 4294967296) :
 Fun Tryz.prog c 196 #[v] h L (fun u _ L' => u = .bool (l.all isG) ∧ L = L') := by
 have hsm := hs.small; rw [List.length_map] at hsm;refine zA (N := 15) (args := [v]) Tryz.func196 ?_;refine qm sl_239 aa ?_;refine qL (fun s0 nn s' h' L' => ∃ (k : Nat), s' = [(7, .int .i64 k)] ++ qR s0 [5, 6] ∧ nn = l.length - k ∧ L = L' ∧ k ≤ l.length ∧ (l.take k).all isG = true) ⟨0, rfl, rfl, rfl, Nat.zero_le _, by simp⟩ zg zl zn ?_;rintro nn s1 h1 L_ le2 ⟨k, rfl, rfl, rfl, hk, hal⟩;replace hs := hs.mono le2;refine lssB (fun c8 => ?_) (fun c8 => ?_)
 ·
  have hkl : k < l.length := by omega
  obtain ⟨x, hx⟩ : ∃ x, l[k]? = some x := ⟨_, List.getElem?_eq_getElem hkl⟩;have hxl := hl x (List.mem_of_getElem? hx);refine qi (k := _) sl_239 aa rfl aa ?_;intro p9 r9 hl9 hp9;refine ql sc_53 aa ?_;refine qc (group_is hxl) ?_;rintro v12 h4 L_ le3 ⟨rfl, rfl⟩;cases hg : isG x
  ·
   refine not_ff ?_;refine ze rfl ?_;exact ⟨by rw [List.all_eq_false.2 ⟨x, List.mem_of_getElem? hx, by simp [hg]⟩], rfl⟩
  ·
   refine not_tt ?_;refine qA ak ?_;exact back (m := _) ⟨k + 1, rfl, rfl, rfl, by omega, by rw [take_snoc hx, List.all_append, hal]; simp [hg]⟩ af zg zl zn
 ·
  refine ze rfl ?_;have hk2 : k = l.length := by omega
  subst hk2;rw [List.take_length] at hal;exact ⟨by rw [hal], rfl⟩
theorem group_Mul {c : World} {h : GH} {L : Own} {a b : Nat} (ha : a < 4294967296) (hb : b < 4294967296) :
 Fun Tryz.prog c 151 #[.int .u32 (a : Int), .int .u32 (b : Int)] h L (fun u _ L' => u = (if isG a && isG b then .tuple #[.int .u32 (a * b % 1000000007 : Nat), .int .i64 0] else .tuple #[.int .u32 (0 : Nat), .int .i64 2]) ∧ L = L') := by
 refine zA (N := 15) (args := [.int .u32 (a : Int), .int .u32 (b : Int)]) Tryz.func151 ?_;refine buildSliceN (ls := [[_], [_]]) sl_239 zc_53 (qy ac (qy ac Parts.nil)) rfl rfl (all2 rfl rfl) (all2 ad ad) ah ah ?_;intro v8 h2 le1 hv8;refine qc (group_all (l := [a, b]) hv8 (all2 ha hb)) ?_;rintro v9 h4 L_ le3 ⟨rfl, rfl⟩;have hab : ([a, b].all isG) = (isG a && isG b) := by simp
 rw [hab];cases hg : (isG a && isG b)
 ·
  refine not_ff ?_;refine DoRet.r2 (.tmp rfl) (.tmp rfl) zg zl ?_;exact ⟨rfl, rfl⟩
 ·
  refine not_tt ?_;refine buildSliceN (ls := [[_], [_]]) sl_239 zc_53 (qy ac (qy ac Parts.nil)) rfl rfl (all2 rfl rfl) (all2 ad ad) ah ah ?_;intro v13 h6 le5 hv13;refine qc (group_mul (l := [a, b]) (m := 1000000007) ah ah hv13 (all2 ha hb)) ?_;rintro v14 h8 L_ le7 ⟨rfl, rfl⟩;refine DoRet.r2 (.tmp rfl) (.tmp rfl) zg zl ?_;exact ⟨by simp [prodM], rfl⟩
theorem group_Pow {c : World} {h : GH} {L : Own} {a n : Nat} (ha : a < 4294967296) (hn : n < 18446744073709551616) :
 Fun Tryz.prog c 150 #[.int .u32 (a : Int), .int .u64 (n : Int)] h L (fun u _ L' => u = (if isG a then .tuple #[.int .u32 (powM a n : Nat), .int .i64 0] else .tuple #[.int .u32 0, .int .i64 2]) ∧ L = L') := by
 refine zA (N := 13) (args := [.int .u32 (a : Int), .int .u64 (n : Int)]) Tryz.func150 ?_;refine qB sl_239 z_53 rfl ag ah aj ?_;intro v7 h2 le1 hv7;refine qc (group_all (l := [a]) hv7 (all1 ha)) ?_;rintro v8 h4 L_ le3 ⟨rfl, rfl⟩;have hab : ([a].all isG) = isG a := by simp
 rw [hab];cases hg : isG a
 ·
  refine not_ff ?_;refine DoRet.r2 (.tmp rfl) (.tmp rfl) zg zl ?_;exact ⟨rfl, rfl⟩
 ·
  refine not_tt ?_;refine qc (group_pow ha hn) ?_;rintro v12 h6 L_ le5 ⟨rfl, rfl⟩;refine DoRet.r2 (.tmp rfl) (.tmp rfl) zg zl ?_;exact ⟨rfl, rfl⟩
def secretOk (n : Nat) : Bool := decide (1 ≤ n ∧ n < 500000003)
theorem sign_public {c : World} {h : GH} {L : Own} {n : Nat} (hn : n < 4294967296) :
 Fun Tryz.prog c 52 #[.int .u32 (n : Int)] h L (fun u _ L' => u = (if 1 ≤ n ∧ n < 500000003 then .tuple #[.int .u32 (powM 4 n : Nat), .int .i64 0] else .tuple #[.int .u32 0, .int .i64 2]) ∧ L = L') := by
 refine zA (N := 13) (args := [.int .u32 (n : Int)]) Tryz.func52 ?_;refine qc (sign_check hn) ?_;rintro v6 h2 L_ le1 ⟨rfl, rfl⟩;refine neqB (fun c8 => ?_) (fun c8 => ?_)
 ·
  refine DoRet.r2 (.tmp rfl) (.tmp rfl) zg zl ?_;have hq : ¬ (1 ≤ n ∧ n < 500000003) := fun e => by rw [if_pos e] at c8; exact c8 rfl
  exact ⟨by rw [if_neg hq, if_neg hq], rfl⟩
 ·
  refine conv_u64 it_53_52 af ?_;refine qc (group_base af) ?_;rintro v12 h4 L_ le3 ⟨rfl, rfl⟩;refine DoRet.r2 (.tmp rfl) (.tmp rfl) zg zl ?_
  have hq : 1 ≤ n ∧ n < 500000003 := by
   apply Decidable.byContradiction; intro e; rw [if_neg e] at c8; cases c8
  exact ⟨by rw [if_pos hq], rfl⟩
theorem ref_power {c : World} {h : GH} {L : Own} {a n m : Nat} (ha : a < 4294967296) (hn : n < 18446744073709551616) (hm : 1 < m) (hm2 : m ≤ 4294967296) :
 Fun Tryz.prog c 203 #[.int .u64 (a : Int), .int .u64 (n : Int), .int .u64 (m : Int)] h L (fun u _ L' => u = .int .u64 ((a ^ n % m : Nat) : Int) ∧ L = L') := by
 refine zA (N := 26) (args := [.int .u64 (a : Int), .int .u64 (n : Int), .int .u64 (m : Int)]) Tryz.func203 ?_;refine qL (fun s0 nn s' h' L' => ∃ (b : Nat) (k : Nat) (o : Nat), s' = [(0, .int .u64 (b : Nat)), (1, .int .u64 (k : Nat)), (7, .int .u64 (o : Nat))] ++ qR s0 [2] ∧ nn = 2 * k ∧ L = L' ∧ b < 4294967296 ∧ k < 18446744073709551616 ∧ o < m ∧ o * b ^ k % m = a ^ n % m) ⟨a, n, 1, rfl, rfl, rfl, ha, hn, hm, by rw [Nat.one_mul]⟩ zg zl zn ?_;rintro nn s1 h1 L_ le2 ⟨b, k, o, rfl, rfl, rfl, hb, hk, ho, hinv⟩;refine gtrB (fun c9 => ?_) (fun c9 => ?_)
 ·
  have hbb : b * b % m < m := Nat.mod_lt _ af;have hob : o * b % m < m := Nat.mod_lt _ af;have hk2 : k = 2 * (k / 2) + k % 2 := by omega
  have hstep : ∀ e : Nat, (b * b % m) ^ (k / 2) % m * e % m = b ^ (2 * (k / 2)) * e % m := fun e => by rw [Nat.pow_mul, Nat.pow_two, Nat.mod_mul_mod, Nat.mul_mod, ← Nat.pow_mod, ← Nat.mul_mod]
  refine rem_nat (b := 2) af ?_;refine eqlB (fun c12 => ?_) (fun c12 => ?_)
  ·
   refine mul_u64n (mul32 af hb) ?_;refine rem_nat af ?_;refine mul_u64n (mul32 hb hb) ?_;refine rem_nat af ?_;refine quo_nat (b := 2) af (by rw [wrap_u64]; omega) ?_
   exact back (m := _) ⟨b * b % m, k / 2, o * b % m, rfl, rfl, rfl, by omega, by omega, by omega, by
    have h1 : k % 2 = 1 := by omega
    rw [h1] at hk2;rw [← hinv]; conv => rhs; rw [hk2, Nat.pow_succ]
    have := hstep (o * b % m);rw [Nat.mul_comm, ← Nat.mod_mul_mod, this, ← Nat.mul_mod_mod, Nat.mod_mod, Nat.mul_mod_mod];congr 1; rw [Nat.mul_comm o b, ← Nat.mul_assoc, Nat.mul_comm _ o]⟩ af zg zl zn
  ·
   refine mul_u64n (mul32 hb hb) ?_;refine rem_nat af ?_;refine quo_nat (b := 2) af (by rw [wrap_u64]; omega) ?_
   exact back (m := _) ⟨b * b % m, k / 2, o, rfl, rfl, rfl, by omega, by omega, ho, by
    have h1 : k % 2 = 0 := by omega
    rw [h1, Nat.add_zero] at hk2;rw [← hinv]; conv => rhs; rw [hk2]
    have := hstep o;rw [Nat.mul_comm, ← Nat.mod_mul_mod, this, Nat.mul_comm]⟩ af zg zl zn
 ·
  refine ze rfl ?_;have hk0 : k = 0 := by omega
  subst hk0;exact ⟨by rw [← hinv, Nat.pow_zero, Nat.mul_one, Nat.mod_eq_of_lt ho], rfl⟩
theorem ref_is {c : World} {h : GH} {L : Own} {a : Nat} (ha : a < 4294967296) :
 Fun Tryz.prog c 155 #[.int .u32 (a : Int)] h L (fun u _ L' => u = (.bool (isG a)) ∧ L = L') := by
 refine zA (N := 15) (args := [.int .u32 (a : Int)]) Tryz.func155 ?_;refine geqB (fun c4 => ?_) (fun c4 => ?_)
 ·
  refine lssB (fun c7 => ?_) (fun c7 => ?_)
  ·
   refine conv_u64 it_53_52 af ?_;refine qc (ref_power (n := 500000003) (m := 1000000007) ha ah ah ah) ?_;rintro v12 h2 L_ le1 ⟨rfl, rfl⟩;refine eqlB (fun c13 => ?_) (fun c13 => ?_)
   ·
    refine ze rfl ?_;have hp : powM a 500000003 = 1 := by unfold powM; omega
    exact ⟨by simp [isG, hp]; omega, rfl⟩
   ·
    refine ze rfl ?_;have hp : ¬ powM a 500000003 = 1 := by unfold powM; omega
    exact ⟨by simp [isG, hp], rfl⟩
  ·
   refine ze rfl ?_;have hp : ¬ a < 1000000007 := by omega
   exact ⟨by simp [isG, hp], rfl⟩
 ·
  refine ze rfl ?_;have hp : a = 0 := by omega
  exact ⟨by simp [isG, hp], rfl⟩
theorem ref_exponent {c : World} {h : GH} {L : Own} {a : Nat} (ha : a < 4294967296) :
 Fun Tryz.prog c 157 #[.int .u32 (a : Int)] h L (fun u _ L' => u = (.bool (decide (a < 500000003))) ∧ L = L') := by
 refine zA (N := 6) (args := [.int .u32 (a : Int)]) Tryz.func157 ?_;refine conv_u64 it_53_52 af ?_;refine lssB (fun c5 => ?_) (fun c5 => ?_)
 ·
  refine ze rfl ?_;exact ⟨by rw [decide_eq_true af], rfl⟩
 ·
  refine ze rfl ?_;exact ⟨by rw [decide_eq_false af], rfl⟩
theorem ref_raised {c : World} {h : GH} {L : Own} {a n : Nat} (ha : a < 4294967296) (hn : n < 18446744073709551616) :
 Fun Tryz.prog c 207 #[.int .u32 (a : Int), .int .u64 (n : Int)] h L (fun u _ L' => u = .int .u32 (powM a n : Nat) ∧ L = L') := by
 refine zA (N := 10) (args := [.int .u32 (a : Int), .int .u64 (n : Int)]) Tryz.func207 ?_;refine conv_u64 it_53_52 af ?_;refine qc (ref_power (m := 1000000007) ha hn ah ah) ?_;rintro v8 h2 L_ le1 ⟨rfl, rfl⟩;have hpl := powM_lt a n;unfold powM at hpl;refine conv_u32n it_52_53 af ?_;refine ze rfl ?_;exact ⟨rfl, rfl⟩
theorem ref_inv {c : World} {h : GH} {L : Own} {a : Nat} (ha : a < 4294967296) :
 Fun Tryz.prog c 206 #[.int .u32 (a : Int)] h L (fun u _ L' => u = (if isG a then .tuple #[.int .u32 (powM a 500000002 : Nat), .int .i64 0] else .tuple #[.int .u32 0, .int .i64 2]) ∧ L = L') := by
 refine zA (N := 9) (args := [.int .u32 (a : Int)]) Tryz.func206 ?_;refine qc (ref_is ha) ?_;rintro v5 h2 L_ le1 ⟨rfl, rfl⟩;cases hg : isG a
 ·
  refine not_ff ?_;refine DoRet.r2 (.tmp rfl) (.tmp rfl) zg zl ?_;exact ⟨rfl, rfl⟩
 ·
  refine not_tt ?_;refine qc (ref_raised (n := 500000002) ha ah) ?_;rintro v8 h4 L_ le3 ⟨rfl, rfl⟩;refine DoRet.r2 (.tmp rfl) (.tmp rfl) zg zl ?_;exact ⟨rfl, rfl⟩
theorem ref_product {c : World} {h : GH} {L : Own} {a b : Nat} (ha : a < 4294967296) (hb : b < 4294967296) :
 Fun Tryz.prog c 209 #[.int .u32 (a : Int), .int .u32 (b : Int)] h L (fun u _ L' => u = (.int .u32 (a * b % 1000000007 : Nat)) ∧ L = L') := by
 refine zA (N := 12) (args := [.int .u32 (a : Int), .int .u32 (b : Int)]) Tryz.func209 ?_;refine conv_u64 it_53_52 af ?_;refine conv_u64 it_53_52 af ?_;refine mul_u64n (mul32 ha hb) ?_;refine rem_nat (b := 1000000007) af ?_;refine conv_u32n it_52_53 af ?_;refine ze rfl ?_;exact ⟨rfl, rfl⟩
theorem ref_base {c : World} {h : GH} {L : Own} {a : Nat} (ha : a < 18446744073709551616) :
 Fun Tryz.prog c 234 #[.int .u64 (a : Int)] h L (fun u _ L' => u = (.int .u32 (powM 4 a : Nat)) ∧ L = L') := by
 refine zA (N := 5) (args := [.int .u64 (a : Int)]) Tryz.func234 ?_;refine qc (ref_raised (a := 4) ah ha) ?_;rintro v4 h2 L_ le1 ⟨rfl, rfl⟩;refine ze rfl ?_;exact ⟨rfl, rfl⟩
theorem ref_key {c : World} {h : GH} {L : Own} {a : Nat} (ha : a < 4294967296) :
 Fun Tryz.prog c 210 #[.int .u32 (a : Int)] h L (fun u _ L' => u = (.int .u32 (powM 4 a : Nat)) ∧ L = L') := by
 refine zA (N := 6) (args := [.int .u32 (a : Int)]) Tryz.func210 ?_;refine conv_u64 it_53_52 af ?_;refine qc (ref_base af) ?_;rintro v5 h2 L_ le1 ⟨rfl, rfl⟩;refine ze rfl ?_;exact ⟨rfl, rfl⟩
end Go.Brd
namespace Go.Brd
open Go Go.Brd Go.Proofs
set_option linter.unusedVariables false
theorem ag_55 : aggN Tryz.prog 55 4 = true := by kernel_rfl
theorem ag_57 : aggN Tryz.prog 57 6 = true := by kernel_rfl
theorem ef_55 : Tryz.prog.eqGuardType Tryz.prog.depth 55 = false := by kernel_rfl
theorem ef_57 : Tryz.prog.eqGuardType Tryz.prog.depth 57 = false := by kernel_rfl
theorem fi_55_0 : fieldIs Tryz.prog 55 0 0 = true := by kernel_rfl
theorem fi_55_1 : fieldIs Tryz.prog 55 1 1 = true := by kernel_rfl
theorem fi_55_2 : fieldIs Tryz.prog 55 2 2 = true := by kernel_rfl
theorem fi_55_3 : fieldIs Tryz.prog 55 3 3 = true := by kernel_rfl
theorem fi_57_0 : fieldIs Tryz.prog 57 0 0 = true := by kernel_rfl
theorem fi_57_1 : fieldIs Tryz.prog 57 1 1 = true := by kernel_rfl
theorem fi_57_2 : fieldIs Tryz.prog 57 2 2 = true := by kernel_rfl
theorem ia_55 : isAggT Tryz.prog 55 = true := by kernel_rfl
theorem ia_57 : isAggT Tryz.prog 57 = true := by kernel_rfl
theorem it_52_3 : intT Tryz.prog 52 3 .i64 = true := by kernel_rfl
theorem pl_55 : placesOf Tryz.prog 55 = some [(0, 1), (1, 1), (2, 1), (3, 1)] := by kernel_rfl
theorem pl_57 : placesOf Tryz.prog 57 = some [(0, 1), (1, 1), (2, 4)] := by kernel_rfl
theorem sc_2 : scalar Tryz.prog 2 = true := by kernel_rfl
theorem sc_52 : scalar Tryz.prog 52 = true := by kernel_rfl
theorem sc_9 : scalar Tryz.prog 9 = true := by kernel_rfl
theorem sh_55 : shp Tryz.prog 20 55 = some [.i .u8, .i .i64, .i .u64, .s] := by kernel_rfl
theorem sh_57 : shp Tryz.prog 20 57 = some [.i .u8, .s, .i .u8, .i .i64, .i .u64, .s] := by kernel_rfl
theorem si_55 : sizeIs Tryz.prog 55 4 = true := by kernel_rfl
theorem un_4 : Tryz.prog.underlying 4 = some .bool := by kernel_rfl
theorem un_9 : Tryz.prog.underlying 9 = some .string := by kernel_rfl
theorem zc_55 : zeroC Tryz.prog 55 = some ([.int .u8 0, .int .i64 0, .int .u64 0, .string ⟨#[]⟩]) := by kernel_rfl
theorem zc_57 : zeroC Tryz.prog 57 = some ([.int .u8 0, .string ⟨#[]⟩, .int .u8 0, .int .i64 0, .int .u64 0, .string ⟨#[]⟩]) := by kernel_rfl
theorem okBytes_false {lo : Nat} {s : ByteArray} {k : Nat} {b : UInt8} (hb : s.data.toList[k]? = some b) (h : b.toNat < lo ∨ 126 < b.toNat) : okBytes lo s = false := by
 unfold okBytes; rw [List.all_eq_false];exact ⟨b, List.mem_of_getElem? hb, by simp; omega⟩
theorem okBytes_true {lo : Nat} {s : ByteArray} (h : ∀ (k : Nat) (b : UInt8), s.data.toList[k]? = some b → lo ≤ b.toNat ∧ b.toNat ≤ 126) : okBytes lo s = true := by
 unfold okBytes; rw [List.all_eq_true];intro b hb; obtain ⟨k, hk, e⟩ := List.getElem_of_mem hb;have := h k b (by rw [List.getElem?_eq_getElem hk, e]);simp; omega
def outR (lo r : Nat) : Bool := decide (r < lo) || decide (126 < r)
def classF (b : Nat) : Nat := if b / 4503599627370496 % 2048 = 2047 then (if b % 4503599627370496 = 0 then 4 else 5) else if b / 4503599627370496 % 2048 = 0 then (if b % 4503599627370496 = 0 then 1 else 2) else 3
def canonF (b : Nat) : Nat := if classF b = 5 then 9221120237041090560 else b
theorem canonF_lt {b : Nat} (h : b < 18446744073709551616) : canonF b < 18446744073709551616 := by unfold canonF; split <;> omega
def val0 : Val := ⟨0, 0, 0, ⟨#[]⟩⟩
def textOk (s : ByteArray) : Bool := decide (s.size ≤ 30) && okBytes 32 s
def wantV (v : Val) : Val := if v.kind = 1 then ⟨1, v.num, 0, ⟨#[]⟩⟩ else if v.kind = 2 then ⟨2, 0, canonF v.bits, ⟨#[]⟩⟩ else if v.kind = 3 then (if textOk v.text then ⟨3, 0, 0, v.text⟩ else val0) else val0
def valOk (v : Val) : Bool := decide (v = wantV v) && decide (v.kind ≠ 0)
theorem valC_inj {v u : Val} (h : valC v = valC u) : v = u := by
 obtain ⟨a, b, d, e⟩ := v; obtain ⟨a2, b2, d2, e2⟩ := u;simp [valC] at h;obtain ⟨h1, h2, h3, h4⟩ := h;have e1 : a = a2 := by omega
 have e3 : d = d2 := by omega
 simp [e1, h2, e3, h4]
def act0 : Act := ⟨1, ⟨#[]⟩, val0⟩
theorem actC_inj {v u : Act} (h : actC v = actC u) : v = u := by
 obtain ⟨a, b, d⟩ := v; obtain ⟨a2, b2, d2⟩ := u;simp only [actC, List.cons.injEq, Value.int.injEq, Value.string.injEq, true_and] at h;obtain ⟨h1, h2, h3⟩ := h;have := valC_inj h3;have h4 : a = a2 := by omega
 simp [h4, h2, this]
def keyOk (s : ByteArray) : Bool := decide (1 ≤ s.size ∧ s.size ≤ 20) && okBytes 33 s
def actOk (a : Act) : Bool := if a.kind = 1 then decide (a = act0) else if a.kind = 2 ∨ a.kind = 3 then keyOk a.key && decide (a.val = val0) else if a.kind = 4 then keyOk a.key && valOk a.val else false
theorem text1 {c : World} {h : GH} {L : Own} {r : Nat} :
 Fun Tryz.prog c 226 #[.int .i32 (r : Int)] h L (fun u _ L' => u = .bool (outR 32 r) ∧ L = L') := by
 refine zA (N := 9) (args := [.int .i32 (r : Int)]) Tryz.func226 ?_;refine lssB (fun c4 => ?_) (fun c4 => ?_)
 ·
  refine ze rfl ?_;have h1 : r < 32 := by omega
  exact ⟨by simp [outR, h1], rfl⟩
 ·
  refine gtrB (fun c7 => ?_) (fun c7 => ?_)
  ·
   refine ze rfl ?_;have h1 : 126 < r := by omega
   exact ⟨by simp [outR, h1], rfl⟩
  ·
   refine ze rfl ?_;have h1 : ¬ r < 32 := by omega
   have h2 : ¬ 126 < r := by omega
   exact ⟨by simp [outR, h1, h2], rfl⟩
theorem key1 {c : World} {h : GH} {L : Own} {r : Nat} :
 Fun Tryz.prog c 224 #[.int .i32 (r : Int)] h L (fun u _ L' => u = .bool (outR 33 r) ∧ L = L') := by
 refine zA (N := 9) (args := [.int .i32 (r : Int)]) Tryz.func224 ?_;refine lssB (fun c4 => ?_) (fun c4 => ?_)
 ·
  refine ze rfl ?_;have h1 : r < 33 := by omega
  exact ⟨by simp [outR, h1], rfl⟩
 ·
  refine gtrB (fun c7 => ?_) (fun c7 => ?_)
  ·
   refine ze rfl ?_;have h1 : 126 < r := by omega
   exact ⟨by simp [outR, h1], rfl⟩
  ·
   refine ze rfl ?_;have h1 : ¬ r < 33 := by omega
   have h2 : ¬ 126 < r := by omega
   exact ⟨by simp [outR, h1, h2], rfl⟩
theorem index_func0 {c : World} {h : GH} {L : Own} {g lo : Nat} {s : ByteArray} (hlo : lo ≤ 127) (hsm : s.size < 4611686018427387904) (hg : ∀ (h : GH) (L : Own) (r : Nat), Fun Tryz.prog c g #[.int .i32 (r : Int)] h L (fun u _ L' => u = .bool (outR lo r) ∧ L = L')) :
 Fun Tryz.prog c 240 #[.string s, .func (.func g) #[] #[], .bool true] h L (fun u _ L' => (∃ i : Int, u = .int .i64 i ∧ -1 ≤ i ∧ (i < 0 ↔ okBytes lo s = true)) ∧ L = L') := by
 refine zA (N := 21) (args := [.string s, .func (.func g) #[] #[], .bool true]) Tryz.func240 ?_;refine range_str un_9 ?_;intro b10;refine qL (fun s0 nn s' h' L' => ∃ (pos : Nat), s' = [] ++ qR s0 [1, 2, 10] ∧ nn = s.size - pos ∧ (b10, .stringIter s pos) :: L = L' ∧ ∀ (k : Nat) (b : UInt8), k < pos → s.data.toList[k]? = some b → lo ≤ b.toNat ∧ b.toNat ≤ 126) ⟨0, rfl, rfl, rfl, ?_⟩ zg zl zn ?_
 · exact fun k _ hk => absurd hk (Nat.not_lt_zero k)
 rintro nn s1 h1 L_ le2 ⟨pos, rfl, rfl, rfl, hall⟩;refine next_str kR (fun c11 => ⟨_, kR.symm, ?_⟩) (fun c11 => ?_)
 ·
  obtain ⟨b, hb, hd⟩ := decode_at c11;refine qc (hg _ _ _) ?_;rintro v17 h4 L_ le3 ⟨rfl, rfl⟩;refine eqlBool un_4 ?_;rw [beq_true];cases ho : outR lo (Utf8.decode s pos).1
  ·
   unfold outR at ho; simp at ho;rcases hd with ⟨h1, e⟩ | ⟨h1, h2, h3⟩
   ·
    have hn : ∀ (k : Nat) (b : UInt8), k < pos + 1 → s.data.toList[k]? = some b → lo ≤ b.toNat ∧ b.toNat ≤ 126 := fun k b2 hk hb2 => by
     rcases Nat.lt_or_ge k pos with h5 | h5
     · exact hall k b2 h5 hb2
     · have : k = pos := by omega
       subst this; rw [hb] at hb2; cases hb2; rw [e] at ho; simp at ho; omega
    exact back (m := _) ⟨pos + 1, rfl, rfl, by rw [e], hn⟩ af zg zl zn
   · omega
  ·
   refine DoRet.r1 (.tmp rfl) (qh (zu kS)) zl ?_;refine ⟨⟨_, rfl, by omega, ?_⟩, rfl⟩;constructor
   · intro h0; omega
   · intro h0
     have : okBytes lo s = false := by
      refine okBytes_false hb ?_;unfold outR at ho; simp at ho;rcases hd with ⟨h1, e⟩ | ⟨h1, h2, _⟩
      · rw [e] at ho; simpa using ho
      · omega
     rw [this] at h0; cases h0
 ·
  refine DoRet.r1 (.tmp rfl) (qh (zu kS)) zl ?_;refine ⟨⟨_, rfl, by omega, ?_⟩, rfl⟩;constructor
  · intro _
    refine okBytes_true fun k b hk => hall k b ?_ hk
    have := (List.getElem?_eq_some_iff.1 hk).1;have : k < s.size := by simpa using this
    omega
  · intro _; omega
theorem index_func {c : World} {h : GH} {L : Own} {g lo : Nat} {s : ByteArray} (hlo : lo ≤ 127) (hsm : s.size < 4611686018427387904) (hg : ∀ (h : GH) (L : Own) (r : Nat), Fun Tryz.prog c g #[.int .i32 (r : Int)] h L (fun u _ L' => u = .bool (outR lo r) ∧ L = L')) :
 Fun Tryz.prog c 223 #[.string s, .func (.func g) #[] #[]] h L (fun u _ L' => (∃ i : Int, u = .int .i64 i ∧ -1 ≤ i ∧ (i < 0 ↔ okBytes lo s = true)) ∧ L = L') := by
 refine zA (N := 8) (args := [.string s, .func (.func g) #[] #[]]) Tryz.func223 ?_;refine qc (index_func0 hlo hsm hg) ?_;rintro v7 h2 L_ le1 ⟨⟨i, rfl, hi1, hi⟩, rfl⟩;refine ze rfl ?_;exact ⟨⟨i, rfl, hi1, hi⟩, rfl⟩
theorem value_number {c : World} {h : GH} {L : Own} {n : Int} :
 Fun Tryz.prog c 193 #[.int .i64 n] h L (fun u _ L' => u = (.agg (valC ⟨1, n, 0, ⟨#[]⟩⟩).toArray) ∧ L = L') := by
 refine zA (N := 5) (args := [.int .i64 n]) Tryz.func193 ?_;refine qa zc_55 ?_;intro b2;refine build_struct zc_55 pl_55 (qy ac (qy ac Parts.nil)) rfl ?_;refine kB si_55 ac ai ad kR ab rfl kR.symm ?_;refine DoRet.r1 (.cell rfl (qx ag_55 kH ab an rfl)) (qh (zu kS)) zl ?_;exact ⟨rfl, rfl⟩
theorem value_split {c : World} {h : GH} {L : Own} {b : Nat} (hb : b < 18446744073709551616) :
 Fun Tryz.prog c 245 #[.int .u64 (b : Int)] h L (fun u _ L' => u = (.tuple #[.int .i64 (b / 4503599627370496 % 2048 : Nat), .int .u64 (b % 4503599627370496 : Nat)]) ∧ L = L') := by
 refine zA (N := 10) (args := [.int .u64 (b : Int)]) Tryz.func245 ?_;refine shr_nat (n := 52) ah ?_;refine conv_i64 it_52_3 ak ?_;refine and_i64n (b := 2047) af ah ?_;rw [show (b / 2 ^ 52 &&& 2047 : Nat) = b / 4503599627370496 % 2048 from Nat.and_two_pow_sub_one_eq_mod (b / 4503599627370496) 11];refine and_u64 (b := 4503599627370495) hb ah ?_;rw [show (b &&& 4503599627370495 : Nat) = b % 4503599627370496 from Nat.and_two_pow_sub_one_eq_mod b 52];refine DoRet.r2 (.tmp rfl) (.tmp rfl) zg zl ?_;exact ⟨rfl, rfl⟩
theorem value_class {c : World} {h : GH} {L : Own} {b : Nat} (hb : b < 18446744073709551616) :
 Fun Tryz.prog c 241 #[.int .u64 (b : Int)] h L (fun u _ L' => u = (.int .u8 (classF b : Nat)) ∧ L = L') := by
 refine zA (N := 26) (args := [.int .u64 (b : Int)]) Tryz.func241 ?_;refine qc (value_split hb) ?_;rintro v7 h2 L_ le1 ⟨rfl, rfl⟩;refine eqlB (fun c12 => ?_) (fun c12 => ?_)
 ·
  refine neqB (fun c15 => ?_) (fun c15 => ?_)
  ·
   refine ze rfl ?_;refine ⟨?_, rfl⟩;unfold classF;repeat' split
   all_goals first | rfl | (exfalso; omega)
  ·
   refine eqlB (fun c19 => ?_) (fun c19 => ?_)
   ·
    refine ze rfl ?_;refine ⟨?_, rfl⟩;unfold classF;repeat' split
    all_goals first | rfl | (exfalso; omega)
   ·
    refine neqB (fun c22 => ?_) (fun c22 => ?_)
    ·
     refine ze rfl ?_;refine ⟨?_, rfl⟩;unfold classF;repeat' split
     all_goals first | rfl | (exfalso; omega)
    ·
     refine neqB (fun c25 => ?_) (fun c25 => ?_)
     ·
      refine ze rfl ?_;refine ⟨?_, rfl⟩;unfold classF;repeat' split
      all_goals first | rfl | (exfalso; omega)
     ·
      refine ze rfl ?_;refine ⟨?_, rfl⟩;unfold classF;repeat' split
      all_goals first | rfl | (exfalso; omega)
 ·
  refine eqlB (fun c19 => ?_) (fun c19 => ?_)
  ·
   refine ze rfl ?_;refine ⟨?_, rfl⟩;unfold classF;repeat' split
   all_goals first | rfl | (exfalso; omega)
  ·
   refine neqB (fun c22 => ?_) (fun c22 => ?_)
   ·
    refine ze rfl ?_;refine ⟨?_, rfl⟩;unfold classF;repeat' split
    all_goals first | rfl | (exfalso; omega)
   ·
    refine neqB (fun c25 => ?_) (fun c25 => ?_)
    ·
     refine ze rfl ?_;refine ⟨?_, rfl⟩;unfold classF;repeat' split
     all_goals first | rfl | (exfalso; omega)
    ·
     refine ze rfl ?_;refine ⟨?_, rfl⟩;unfold classF;repeat' split
     all_goals first | rfl | (exfalso; omega)
theorem value_canon {c : World} {h : GH} {L : Own} {b : Nat} (hb : b < 18446744073709551616) :
 Fun Tryz.prog c 225 #[.int .u64 (b : Int)] h L (fun u _ L' => u = (.int .u64 (canonF b : Nat)) ∧ L = L') := by
 refine zA (N := 7) (args := [.int .u64 (b : Int)]) Tryz.func225 ?_;refine qc (value_class hb) ?_;rintro v4 h2 L_ le1 ⟨rfl, rfl⟩;refine eqlB (fun c5 => ?_) (fun c5 => ?_)
 ·
  refine ze rfl ?_;have h1 : classF b = 5 := by omega
  exact ⟨by unfold canonF; rw [if_pos h1]; rfl, rfl⟩
 ·
  refine ze rfl ?_;have h1 : ¬ classF b = 5 := by omega
  exact ⟨by unfold canonF; rw [if_neg h1], rfl⟩
theorem value_float {c : World} {h : GH} {L : Own} {b : Nat} (hb : b < 18446744073709551616) :
 Fun Tryz.prog c 194 #[.int .u64 (b : Int)] h L (fun u _ L' => u = (.agg (valC ⟨2, 0, canonF b, ⟨#[]⟩⟩).toArray) ∧ L = L') := by
 refine zA (N := 6) (args := [.int .u64 (b : Int)]) Tryz.func194 ?_;refine qa zc_55 ?_;intro b2;refine qc (value_canon hb) ?_;rintro v4 h2 L_ le1 ⟨rfl, rfl⟩;refine build_struct zc_55 pl_55 (qy ac (qy ac Parts.nil)) rfl ?_;refine kB si_55 ac ai ad kR ab rfl kR.symm ?_;refine DoRet.r1 (.cell rfl (qx ag_55 kH ab an rfl)) (qh (zu kS)) zl ?_;exact ⟨rfl, rfl⟩
theorem value_text {c : World} {h : GH} {L : Own} {s : ByteArray} (hsm : s.size < 4611686018427387904) :
 Fun Tryz.prog c 195 #[.string s] h L (fun u _ L' => u = (if textOk s then .tuple #[.agg (valC ⟨3, 0, 0, s⟩).toArray, .int .i64 0] else .tuple #[.agg (valC val0).toArray, .int .i64 (if s.size ≤ 30 then 8 else 4)]) ∧ L = L') := by
 refine zA (N := 14) (args := [.string s]) Tryz.func195 ?_;refine qa zc_55 ?_;intro b2;refine len_str un_9 ?_;refine gtrB (fun c6 => ?_) (fun c6 => ?_)
 ·
  refine build_struct zc_55 pl_55 Parts.nil rfl ?_;refine kB si_55 ac ai ad kR ab rfl kR.symm ?_;refine DoRet.r2 (.cell rfl (qx ag_55 kH ab an rfl)) (.tmp rfl) (qh (zu kS)) zl ?_;have h1 : ¬ s.size ≤ 30 := by omega
  exact ⟨by simp [textOk, h1]; rfl, rfl⟩
 ·
  refine qc (index_func (lo := 32) ah hsm (fun _ _ _ => text1)) ?_;rintro v9 h2 L_ le1 ⟨⟨i, rfl, hi1, hi⟩, rfl⟩;refine geqB (fun c10 => ?_) (fun c10 => ?_)
  ·
   refine build_struct zc_55 pl_55 Parts.nil rfl ?_;refine kB si_55 ac ai ad kR ab rfl kR.symm ?_;refine DoRet.r2 (.cell rfl (qx ag_55 kH ab an rfl)) (.tmp rfl) (qh (zu kS)) zl ?_;have h1 : s.size ≤ 30 := by omega
   have h2 : okBytes 32 s = false := by
    cases hx : okBytes 32 s
    · rfl
    · have := hi.2 hx; omega
   exact ⟨by simp [textOk, h1, h2]; rfl, rfl⟩
  ·
   refine build_struct zc_55 pl_55 (qy ac (qy ac Parts.nil)) rfl ?_;refine kB si_55 ac ai ad kR ab rfl kR.symm ?_;refine DoRet.r2 (.cell rfl (qx ag_55 kH ab an rfl)) (.tmp rfl) (qh (zu kS)) zl ?_;have h1 : s.size ≤ 30 := by omega
   have h2 : okBytes 32 s = true := hi.1 af;exact ⟨by simp [textOk, h1, h2]; rfl, rfl⟩
theorem valOk_F {v w : Val} (hw : wantV v = w) (hc : ¬ valC v = valC w) : valOk v = false := by
 have : ¬ v = wantV v := fun e => hc (by rw [← hw, ← e])
 simp [valOk, this]
theorem valOk_T {v w : Val} (hw : wantV v = w) (hc : valC v = valC w) (hk : ¬ (v.kind : Int) = 0) : valOk v = true := by
 have h1 : v = wantV v := by rw [hw]; exact valC_inj hc
 have h2 : ¬ v.kind = 0 := by omega
 unfold valOk; rw [decide_eq_true h1, decide_eq_true h2]; rfl
theorem valOk_0 {v : Val} (hk : (v.kind : Int) = 0) : valOk v = false := by
 have h2 : v.kind = 0 := by omega
 simp [valOk, h2]
theorem want1 {v : Val} (h : (v.kind : Int) = 1) : wantV v = ⟨1, v.num, 0, ⟨#[]⟩⟩ := by
 have : v.kind = 1 := by omega
 simp [wantV, this]
theorem want2 {v : Val} (h : (v.kind : Int) = 2) : wantV v = ⟨2, 0, canonF v.bits, ⟨#[]⟩⟩ := by
 have : v.kind = 2 := by omega
 simp [wantV, this]
theorem want3 {v : Val} (h : (v.kind : Int) = 3) (ht : textOk v.text = true) : wantV v = ⟨3, 0, 0, v.text⟩ := by
 have : v.kind = 3 := by omega
 simp [wantV, this, ht]
theorem want3F {v : Val} (h : (v.kind : Int) = 3) (ht : textOk v.text = false) : wantV v = val0 := by
 have : v.kind = 3 := by omega
 simp [wantV, this, ht]
theorem want0 {v : Val} (h1 : ¬ (v.kind : Int) = 1) (h2 : ¬ (v.kind : Int) = 2) (h3 : ¬ (v.kind : Int) = 3) : wantV v = val0 := by
 have h1 : ¬ v.kind = 1 := by omega
 have h2 : ¬ v.kind = 2 := by omega
 have h3 : ¬ v.kind = 3 := by omega
 simp [wantV, h1, h2, h3]
structure Small (s : ByteArray) : Prop where
 lt : s.size < 4611686018427387904
theorem actOk_def (a : Act) : actOk a = if a.kind = 1 then decide (a = act0) else if a.kind = 2 ∨ a.kind = 3 then keyOk a.key && decide (a.val = val0) else if a.kind = 4 then keyOk a.key && valOk a.val else false := rfl
theorem value_check {c : World} {h : GH} {L : Own} {v : Val} (hv : ValWF v) (hvt : v.text.size < 4611686018427387904) :
 Fun Tryz.prog c 146 #[.agg (valC v).toArray] h L (fun u _ L' => u = (.int .i64 (if valOk v then 0 else 8)) ∧ L = L') := by
 refine zA (N := 32) (args := [.agg (valC v).toArray]) Tryz.func146 ?_;refine box_at rfl ?_;intro p1 h2 le1 hp1;refine qa zc_55 ?_;intro b3;refine qf fi_55_0 aa ?_;intro p4 hp4;refine ql sc_5 aa ?_;refine eqlB (fun c7 => ?_) (fun c7 => ?_)
 ·
  refine qf fi_55_1 aa ?_;intro p8 hp8;refine ql sc_2 aa ?_;refine qc (value_number) ?_;rintro v10 h4 L_ le3 ⟨rfl, rfl⟩;replace hp1 := hp1.mono le3;refine kB si_55 ac ai ad kR ab rfl kR.symm ?_;refine qX ag_55 aa ag ?_;refine qx ag_55 kH ab an ?_;refine neqF sh_55 ia_55 ef_55 rfl rfl (fun c26 => ?_) (fun c26 => ?_)
  ·
   refine DoRet.r1 (.tmp rfl) (qh (zu kS)) zl ?_;exact ⟨by rw [valOk_F (want1 c7) c26]; rfl, rfl⟩
  ·
   refine qf fi_55_0 aa ?_;intro p28 hp28;refine ql sc_5 aa ?_;refine eqlB (fun c30 => ?_) (fun c30 => ?_)
   ·
    refine DoRet.r1 (.tmp rfl) (qh (zu kS)) zl ?_;exact ⟨by rw [valOk_0 c30]; rfl, rfl⟩
   ·
    refine DoRet.r1 (.tmp rfl) (qh (zu kS)) zl ?_;exact ⟨by rw [valOk_T (want1 c7) c26 c30]; rfl, rfl⟩
 ·
  refine eqlB (fun c12 => ?_) (fun c12 => ?_)
  ·
   refine qf fi_55_2 aa ?_;intro p13 hp13;refine ql sc_52 aa ?_;refine qc (value_float hv.bits) ?_;rintro v15 h6 L_ le5 ⟨rfl, rfl⟩;replace hp1 := hp1.mono le5;refine kB si_55 ac ai ad kR ab rfl kR.symm ?_;refine qX ag_55 aa ag ?_;refine qx ag_55 kH ab an ?_;refine neqF sh_55 ia_55 ef_55 rfl rfl (fun c26 => ?_) (fun c26 => ?_)
   ·
    refine DoRet.r1 (.tmp rfl) (qh (zu kS)) zl ?_;exact ⟨by rw [valOk_F (want2 c12) c26]; rfl, rfl⟩
   ·
    refine qf fi_55_0 aa ?_;intro p28 hp28;refine ql sc_5 aa ?_;refine eqlB (fun c30 => ?_) (fun c30 => ?_)
    ·
     refine DoRet.r1 (.tmp rfl) (qh (zu kS)) zl ?_;exact ⟨by rw [valOk_0 c30]; rfl, rfl⟩
    ·
     refine DoRet.r1 (.tmp rfl) (qh (zu kS)) zl ?_;exact ⟨by rw [valOk_T (want2 c12) c26 c30]; rfl, rfl⟩
  ·
   refine eqlB (fun c17 => ?_) (fun c17 => ?_)
   ·
    refine qf fi_55_3 aa ?_;intro p19 hp19;refine ql sc_9 aa ?_;refine qc (value_text hvt) ?_;rintro v21 h8 L_ le7 ⟨rfl, rfl⟩;replace hp1 := hp1.mono le7;cases hto : textOk v.text
    ·
     refine kB si_55 ac ai ad kR ab rfl kR.symm ?_;refine qX ag_55 aa ag ?_;refine qx ag_55 kH ab an ?_;refine neqF sh_55 ia_55 ef_55 rfl rfl (fun c26 => ?_) (fun c26 => ?_)
     ·
      refine DoRet.r1 (.tmp rfl) (qh (zu kS)) zl ?_;exact ⟨by rw [valOk_F (want3F c17 hto) c26]; rfl, rfl⟩
     ·
      refine qf fi_55_0 aa ?_;intro p28 hp28;refine ql sc_5 aa ?_;refine eqlB (fun c30 => ?_) (fun c30 => ?_)
      ·
       refine DoRet.r1 (.tmp rfl) (qh (zu kS)) zl ?_;exact ⟨by rw [valOk_0 c30]; rfl, rfl⟩
      ·
       refine DoRet.r1 (.tmp rfl) (qh (zu kS)) zl ?_;exact ⟨by rw [valOk_T (want3F c17 hto) c26 c30]; rfl, rfl⟩
    ·
     refine kB si_55 ac ai ad kR ab rfl kR.symm ?_;refine qX ag_55 aa ag ?_;refine qx ag_55 kH ab an ?_;refine neqF sh_55 ia_55 ef_55 rfl rfl (fun c26 => ?_) (fun c26 => ?_)
     ·
      refine DoRet.r1 (.tmp rfl) (qh (zu kS)) zl ?_;exact ⟨by rw [valOk_F (want3 c17 hto) c26]; rfl, rfl⟩
     ·
      refine qf fi_55_0 aa ?_;intro p28 hp28;refine ql sc_5 aa ?_;refine eqlB (fun c30 => ?_) (fun c30 => ?_)
      ·
       refine DoRet.r1 (.tmp rfl) (qh (zu kS)) zl ?_;exact ⟨by rw [valOk_0 c30]; rfl, rfl⟩
      ·
       refine DoRet.r1 (.tmp rfl) (qh (zu kS)) zl ?_;exact ⟨by rw [valOk_T (want3 c17 hto) c26 c30]; rfl, rfl⟩
   ·
    refine qX ag_55 aa ag ?_;refine qx ag_55 kH ab an ?_;refine neqF sh_55 ia_55 ef_55 rfl rfl (fun c26 => ?_) (fun c26 => ?_)
    ·
     refine DoRet.r1 (.tmp rfl) (qh (zu kS)) zl ?_;exact ⟨by rw [valOk_F (want0 c7 c12 c17) c26]; rfl, rfl⟩
    ·
     refine qf fi_55_0 aa ?_;intro p28 hp28;refine ql sc_5 aa ?_;refine eqlB (fun c30 => ?_) (fun c30 => ?_)
     ·
      refine DoRet.r1 (.tmp rfl) (qh (zu kS)) zl ?_;exact ⟨by rw [valOk_0 c30]; rfl, rfl⟩
     ·
      refine DoRet.r1 (.tmp rfl) (qh (zu kS)) zl ?_;exact ⟨by rw [valOk_T (want0 c7 c12 c17) c26 c30]; rfl, rfl⟩
theorem op_key {c : World} {h : GH} {L : Own} {s : ByteArray} (hsm : s.size < 4611686018427387904) :
 Fun Tryz.prog c 190 #[.string s] h L (fun u _ L' => u = (.bool (keyOk s)) ∧ L = L') := by
 refine zA (N := 16) (args := [.string s]) Tryz.func190 ?_;refine len_str un_9 ?_;refine geqB (fun c5 => ?_) (fun c5 => ?_)
 ·
  refine len_str un_9 ?_;refine leqB (fun c9 => ?_) (fun c9 => ?_)
  ·
   refine qc (index_func (lo := 33) ah hsm (fun _ _ _ => key1)) ?_;rintro v13 h2 L_ le1 ⟨⟨i, rfl, hi1, hi⟩, rfl⟩;refine lssB (fun c14 => ?_) (fun c14 => ?_)
   ·
    refine ze rfl ?_;have h1 : 1 ≤ s.size := by omega
    have h3 : s.size ≤ 20 := by omega
    have h2 : okBytes 33 s = true := hi.1 c14;exact ⟨by simp [keyOk, h1, h2, h3], rfl⟩
   ·
    refine ze rfl ?_
    have h2 : okBytes 33 s = false := by
     cases hx : okBytes 33 s
     · rfl
     · exact absurd (hi.2 hx) c14
    exact ⟨by simp [keyOk, h2], rfl⟩
  ·
   refine ze rfl ?_;have h1 : ¬ s.size ≤ 20 := by omega
   exact ⟨by simp [keyOk, h1], rfl⟩
 ·
  refine ze rfl ?_;have h1 : ¬ 1 ≤ s.size := by omega
  exact ⟨by simp [keyOk, h1], rfl⟩
theorem op_checkact {c : World} {h : GH} {L : Own} {a : Act} (ha : ActWF a) (hkt : a.key.size < 4611686018427387904) (hvt : a.val.text.size < 4611686018427387904) :
 Fun Tryz.prog c 143 #[.agg (actC a).toArray] h L (fun u _ L' => u = (.int .i64 (if actOk a then 0 else 8)) ∧ L = L') := by
 refine zA (N := 36) (args := [.agg (actC a).toArray]) Tryz.func143 ?_;refine box_at rfl ?_;intro p1 h2 le1 hp1;refine qf fi_57_0 aa ?_;intro p4 hp4;refine ql sc_5 aa ?_;refine eqlB (fun c7 => ?_) (fun c7 => ?_)
 ·
  refine qX ag_57 aa ag ?_;refine build_struct zc_57 pl_57 (qy ac Parts.nil) rfl ?_;refine eqlF sh_57 ia_57 ef_57 rfl rfl (fun c10 => ?_) (fun c10 => ?_)
  ·
   refine not_tt ?_;refine ze rfl ?_
   have h1 : actOk a = true := by
    rw [actOk_def];have k1 : a.kind = 1 := by omega
    rw [if_pos k1, decide_eq_true (actC_inj c10)]
   exact ⟨by rw [h1]; rfl, rfl⟩
  ·
   refine not_ff ?_;refine ze rfl ?_
   have h1 : actOk a = false := by
    rw [actOk_def];have k1 : a.kind = 1 := by omega
    rw [if_pos k1, decide_eq_false (fun e => c10 (congrArg actC e))]
   exact ⟨by rw [h1]; rfl, rfl⟩
 ·
  refine eqlB (fun c12 => ?_) (fun c12 => ?_)
  ·
   refine qf fi_57_1 aa ?_;intro p14 hp14;refine ql sc_9 aa ?_;refine qc (op_key hkt) ?_;rintro v16 h4 L_ le3 ⟨rfl, rfl⟩;replace hp1 := hp1.mono le3;cases hko : keyOk a.key
   ·
    refine not_ff ?_;refine ze rfl ?_
    have h1 : actOk a = false := by
     rw [actOk_def];have k1 : ¬ a.kind = 1 := by omega
     have k2 : a.kind = 2 ∨ a.kind = 3 := by omega
     rw [if_neg k1, if_pos k2, hko];rfl
    exact ⟨by rw [h1]; rfl, rfl⟩
   ·
    refine qf fi_57_2 aa ?_;intro p18 hp18;refine qX ag_55 aa ag ?_;refine build_struct zc_55 pl_55 Parts.nil rfl ?_;refine eqlF sh_55 ia_55 ef_55 rfl rfl (fun c21 => ?_) (fun c21 => ?_)
    ·
     refine not_tt ?_;refine ze rfl ?_
     have h1 : actOk a = true := by
      rw [actOk_def];have k1 : ¬ a.kind = 1 := by omega
      have k2 : a.kind = 2 ∨ a.kind = 3 := by omega
      rw [if_neg k1, if_pos k2, hko];rw [decide_eq_true (valC_inj (v := a.val) (u := val0) c21)]; rfl
     exact ⟨by rw [h1]; rfl, rfl⟩
    ·
     refine not_ff ?_;refine ze rfl ?_
     have h1 : actOk a = false := by
      rw [actOk_def];have k1 : ¬ a.kind = 1 := by omega
      have k2 : a.kind = 2 ∨ a.kind = 3 := by omega
      rw [if_neg k1, if_pos k2, hko];rw [decide_eq_false (fun e => c21 (show valC a.val = valC val0 by rw [e]))]; rfl
     exact ⟨by rw [h1]; rfl, rfl⟩
  ·
   refine eqlB (fun c13 => ?_) (fun c13 => ?_)
   ·
    refine qf fi_57_1 aa ?_;intro p14 hp14;refine ql sc_9 aa ?_;refine qc (op_key hkt) ?_;rintro v16 h6 L_ le5 ⟨rfl, rfl⟩;replace hp1 := hp1.mono le5;cases hko : keyOk a.key
    ·
     refine not_ff ?_;refine ze rfl ?_
     have h1 : actOk a = false := by
      rw [actOk_def];have k1 : ¬ a.kind = 1 := by omega
      have k2 : a.kind = 2 ∨ a.kind = 3 := by omega
      rw [if_neg k1, if_pos k2, hko];rfl
     exact ⟨by rw [h1]; rfl, rfl⟩
    ·
     refine qf fi_57_2 aa ?_;intro p18 hp18;refine qX ag_55 aa ag ?_;refine build_struct zc_55 pl_55 Parts.nil rfl ?_;refine eqlF sh_55 ia_55 ef_55 rfl rfl (fun c21 => ?_) (fun c21 => ?_)
     ·
      refine not_tt ?_;refine ze rfl ?_
      have h1 : actOk a = true := by
       rw [actOk_def];have k1 : ¬ a.kind = 1 := by omega
       have k2 : a.kind = 2 ∨ a.kind = 3 := by omega
       rw [if_neg k1, if_pos k2, hko];rw [decide_eq_true (valC_inj (v := a.val) (u := val0) c21)]; rfl
      exact ⟨by rw [h1]; rfl, rfl⟩
     ·
      refine not_ff ?_;refine ze rfl ?_
      have h1 : actOk a = false := by
       rw [actOk_def];have k1 : ¬ a.kind = 1 := by omega
       have k2 : a.kind = 2 ∨ a.kind = 3 := by omega
       rw [if_neg k1, if_pos k2, hko];rw [decide_eq_false (fun e => c21 (show valC a.val = valC val0 by rw [e]))]; rfl
      exact ⟨by rw [h1]; rfl, rfl⟩
   ·
    refine eqlB (fun c24 => ?_) (fun c24 => ?_)
    ·
     refine qf fi_57_1 aa ?_;intro p25 hp25;refine ql sc_9 aa ?_;refine qc (op_key hkt) ?_;rintro v27 h8 L_ le7 ⟨rfl, rfl⟩;replace hp1 := hp1.mono le7;cases hko : keyOk a.key
     ·
      refine not_ff ?_;refine ze rfl ?_
      have h1 : actOk a = false := by
       rw [actOk_def];have k1 : ¬ a.kind = 1 := by omega
       have k2 : ¬ (a.kind = 2 ∨ a.kind = 3) := by omega
       have k4 : a.kind = 4 := by omega
       rw [if_neg k1, if_neg k2, if_pos k4, hko];rfl
      exact ⟨by rw [h1]; rfl, rfl⟩
     ·
      refine qf fi_57_2 aa ?_;intro p29 hp29;refine qX ag_55 aa ag ?_;refine qc (value_check ha.val hvt) ?_;rintro v31 h10 L_ le9 ⟨rfl, rfl⟩;refine eqlB (fun c32 => ?_) (fun c32 => ?_)
      ·
       refine not_tt ?_;refine ze rfl ?_
       have h1 : actOk a = true := by
        rw [actOk_def];have k1 : ¬ a.kind = 1 := by omega
        have k2 : ¬ (a.kind = 2 ∨ a.kind = 3) := by omega
        have k4 : a.kind = 4 := by omega
        rw [if_neg k1, if_neg k2, if_pos k4, hko];cases hx : valOk a.val
        · rw [hx] at c32; cases c32
        · rfl
       exact ⟨by rw [h1]; rfl, rfl⟩
      ·
       refine not_ff ?_;refine ze rfl ?_
       have h1 : actOk a = false := by
        rw [actOk_def];have k1 : ¬ a.kind = 1 := by omega
        have k2 : ¬ (a.kind = 2 ∨ a.kind = 3) := by omega
        have k4 : a.kind = 4 := by omega
        rw [if_neg k1, if_neg k2, if_pos k4, hko];cases hx : valOk a.val
        · rfl
        · rw [hx] at c32; exact absurd rfl c32
       exact ⟨by rw [h1]; rfl, rfl⟩
    ·
     refine not_ff ?_;refine ze rfl ?_
     have h1 : actOk a = false := by
      rw [actOk_def];have k1 : ¬ a.kind = 1 := by omega
      have k2 : ¬ (a.kind = 2 ∨ a.kind = 3) := by omega
      have k4 : ¬ a.kind = 4 := by omega
      rw [if_neg k1, if_neg k2, if_neg k4]
     exact ⟨by rw [h1]; rfl, rfl⟩
end Go.Brd
namespace Go.Brd
open Go Go.Brd Go.Proofs
set_option linter.unusedVariables false
theorem it_3_5 : intT Tryz.prog 3 5 .u8 = true := by kernel_rfl
theorem it_52_5 : intT Tryz.prog 52 5 .u8 = true := by kernel_rfl
theorem it_5_3 : intT Tryz.prog 5 3 .i64 = true := by kernel_rfl
theorem si_5 : sizeIs Tryz.prog 5 1 = true := by kernel_rfl
theorem sl_109 : sliceOf Tryz.prog 109 5 1 = true := by kernel_rfl
theorem un_109 : Tryz.prog.underlying 109 = some (.slice 5) := by kernel_rfl
theorem z_5 : zeroIs Tryz.prog 5 1 = true := by kernel_rfl
theorem zc_5 : zeroC Tryz.prog 5 = some ([.int .u8 0]) := by kernel_rfl
theorem zv_5 : zeroV Tryz.prog 5 = some (.int .u8 0) := by kernel_rfl
def tab64 : ByteArray := ⟨#[0, 1, 2, 2, 3, 3, 3, 3, 4, 4, 4, 4, 4, 4, 4, 4, 5, 5, 5, 5, 5, 5, 5, 5, 5, 5, 5, 5, 5, 5, 5, 5, 6, 6, 6, 6, 6, 6, 6, 6, 6, 6, 6, 6, 6, 6, 6, 6, 6, 6, 6, 6, 6, 6, 6, 6, 6, 6, 6, 6, 6, 6, 6, 6, 7, 7, 7, 7, 7, 7, 7, 7, 7, 7, 7, 7, 7, 7, 7, 7, 7, 7, 7, 7, 7, 7, 7, 7, 7, 7, 7, 7, 7, 7, 7, 7, 7, 7, 7, 7, 7, 7, 7, 7, 7, 7, 7, 7, 7, 7, 7, 7, 7, 7, 7, 7, 7, 7, 7, 7, 7, 7, 7, 7, 7, 7, 7, 7, 8, 8, 8, 8, 8, 8, 8, 8, 8, 8, 8, 8, 8, 8, 8, 8, 8, 8, 8, 8, 8, 8, 8, 8, 8, 8, 8, 8, 8, 8, 8, 8, 8, 8, 8, 8, 8, 8, 8, 8, 8, 8, 8, 8, 8, 8, 8, 8, 8, 8, 8, 8, 8, 8, 8, 8, 8, 8, 8, 8, 8, 8, 8, 8, 8, 8, 8, 8, 8, 8, 8, 8, 8, 8, 8, 8, 8, 8, 8, 8, 8, 8, 8, 8, 8, 8, 8, 8, 8, 8, 8, 8, 8, 8, 8, 8, 8, 8, 8, 8, 8, 8, 8, 8, 8, 8, 8, 8, 8, 8, 8, 8, 8, 8, 8, 8, 8, 8, 8, 8, 8, 8, 8, 8, 8, 8, 8, 8]⟩
def tabOk (x : Nat) : Bool := match tab64.data.toList[x]? with
 | some b => decide (x < 2 ^ b.toNat) && decide (x = 0 ∨ 2 ^ b.toNat ≤ 2 * x) && decide (b.toNat ≤ 8)
 | none => false
theorem tab_all : (List.range 256).all tabOk = true := by decide +kernel
theorem tab_at {x : Nat} (h : x < 256) : ∃ b : UInt8, tab64.data.toList[x]? = some b ∧ x < 2 ^ b.toNat ∧ (x = 0 ∨ 2 ^ b.toNat ≤ 2 * x) ∧ b.toNat ≤ 8 := by
 have := List.all_eq_true.1 tab_all x (List.mem_range.2 h);unfold tabOk at this;split at this
 · rename_i b hb; simp at this; exact ⟨b, hb, this.1.1, this.1.2, this.2⟩
 · cases this
theorem len_fin {N s b : Nat} (h1 : N / 2 ^ s < 2 ^ b) (h2 : 2 ^ b ≤ 2 * (N / 2 ^ s)) : N < 2 ^ (s + b) ∧ 2 ^ (s + b) ≤ 2 * N := by
 have h3 := (Nat.div_lt_iff_lt_mul (Nat.two_pow_pos s)).1 h1;have h4 : 2 ^ s * (N / 2 ^ s) ≤ N := Nat.mul_div_le N (2 ^ s);have h5 : 2 ^ s * 2 ^ b ≤ 2 ^ s * (2 * (N / 2 ^ s)) := Nat.mul_le_mul_left _ h2;rw [Nat.pow_add];constructor
 · rw [Nat.mul_comm]; exact h3
 · rw [Nat.mul_left_comm] at h5; omega
def digs : Nat → Nat → List UInt8
 | 0, _ => []
 | f + 1, n => if n = 0 then [] else UInt8.ofNat n :: digs f (n / 256)
def numB (n : Nat) : List UInt8 := if n ≤ 247 then [UInt8.ofNat n] else UInt8.ofNat (247 + (digs 8 n).length) :: (digs 8 n).reverse
theorem digs_get : ∀ (f k n : Nat), k ≤ f → n < 256 ^ k → (k = 0 ∨ 256 ^ (k - 1) ≤ n) → (digs f n).length = k ∧ ∀ i, i < k → (digs f n)[i]? = some (UInt8.ofNat (n / 256 ^ i))
 | 0, k, n, hk, h1, h2 => by
  have : k = 0 := by omega
  subst this; simp [digs]
 | f + 1, 0, n, hk, h1, h2 => by
  have : n = 0 := by simpa using h1
  subst this; simp [digs]
 | f + 1, k + 1, n, hk, h1, h2 => by
  have h2' : 256 ^ k ≤ n := by
   rcases h2 with h2 | h2
   · omega
   · simpa using h2
  have hn : n ≠ 0 := by have := Nat.pow_pos (a := 256) (n := k) ah; omega
  have ih := digs_get f k (n / 256) af (by rw [Nat.div_lt_iff_lt_mul ah]; rw [Nat.pow_succ] at h1; exact h1) (by
   rcases Nat.eq_zero_or_pos k with h | h
   · exact .inl h
   · right
     have e1 : 256 ^ (k - 1) * 256 = 256 ^ k := by
      rw [← Nat.pow_succ]; congr 1; omega
     rw [Nat.le_div_iff_mul_le ah, e1]; exact h2')
  simp only [digs, hn, if_false, List.length_cons];refine ⟨by rw [ih.1], fun i hi => ?_⟩;cases i with
  | zero => simp
  | succ i =>
   simp only [List.getElem?_cons_succ];rw [ih.2 i af, Nat.pow_succ, Nat.mul_comm, Nat.div_div_eq_div_mul]
theorem bytes_of_bits {n l : Nat} (h1 : n < 2 ^ l) (h2 : 2 ^ l ≤ 2 * n) (h3 : l ≤ 64) (h4 : 1 ≤ l) : n < 256 ^ ((l + 7) / 8) ∧ 256 ^ ((l + 7) / 8 - 1) ≤ n ∧ (l + 7) / 8 ≤ 8 := by
 have e : ∀ k, 256 ^ k = 2 ^ (8 * k) := fun k => by rw [Nat.pow_mul]
 rw [e, e];refine ⟨Nat.lt_of_lt_of_le h1 (Nat.pow_le_pow_right ah af), ?_, by omega⟩;have h5 : 2 ^ (8 * ((l + 7) / 8 - 1) + 1) ≤ 2 ^ l := Nat.pow_le_pow_right ah af;rw [Nat.pow_succ] at h5; omega
abbrev B5 : Nat := 5
def OB (v : Value) (x : List UInt8) (N : Own) : Prop := OS B5 1 v (x.map u8C) N
theorem u8_ofNat {n : Nat} : u8V (UInt8.ofNat n) = .int .u8 ((n % 256 : Nat) : Int) := by simp [u8V]
theorem len64 {c : World} {h : GH} {L : Own} {n : Nat} (hn : n < 18446744073709551616) (h0 : 0 < n) :
 Fun Tryz.prog c 130 #[.int .u64 (n : Int)] h L (fun u _ L' => (∃ k : Nat, u = .int .i64 (k : Int) ∧ n < 2 ^ k ∧ 2 ^ k ≤ 2 * n ∧ k ≤ 64 ∧ 1 ≤ k) ∧ L = L') := by
 refine zA (N := 25) (args := [.int .u64 (n : Int)]) Tryz.func130 ?_;refine geqB (fun c4 => ?_) (fun c4 => ?_)
 ·
  refine shr_nat (n := 32) ah ?_;refine geqB (fun c8 => ?_) (fun c8 => ?_)
  ·
   refine shr_nat (n := 16) ah ?_;refine qA ak ?_;refine geqB (fun c14 => ?_) (fun c14 => ?_)
   ·
    have hx : n / 2 ^ 32 / 2 ^ 16 / 2 ^ 8 < 256 := by omega
    have hx0 : 0 < n / 2 ^ 32 / 2 ^ 16 / 2 ^ 8 := by omega
    obtain ⟨tb, ht1, ht2, ht3, ht4⟩ := tab_at hx;have hxe : n / 2 ^ 32 / 2 ^ 16 / 2 ^ 8 = n / 2 ^ 56 := by simp only [Nat.div_div_eq_div_mul, ← Nat.pow_add]
    refine shr_nat (n := 8) ah ?_;refine qA ak ?_;refine conv_u8n it_52_5 af ?_;refine index_str (s := tab64) un_9 rfl ht1 ?_;refine conv_i64 it_5_3 ak ?_;refine qA ak ?_;refine ze rfl ?_;have hf : n < 2 ^ (56 + tb.toNat) ∧ 2 ^ (56 + tb.toNat) ≤ 2 * n := len_fin (by rw [← hxe]; exact ht2) (by rw [← hxe]; omega)
    have hge : 1 ≤ 56 + tb.toNat := by
     apply Decidable.byContradiction; intro e;have e0 : 56 + tb.toNat = 0 := by omega
     rw [e0] at hf; omega
    refine ⟨⟨56 + tb.toNat, by first | rfl | (congr 1; omega), hf.1, hf.2, by omega, hge⟩, rfl⟩
   ·
    have hx : n / 2 ^ 32 / 2 ^ 16 < 256 := by omega
    have hx0 : 0 < n / 2 ^ 32 / 2 ^ 16 := by omega
    obtain ⟨tb, ht1, ht2, ht3, ht4⟩ := tab_at hx;have hxe : n / 2 ^ 32 / 2 ^ 16 = n / 2 ^ 48 := by simp only [Nat.div_div_eq_div_mul, ← Nat.pow_add]
    refine conv_u8n it_52_5 af ?_;refine index_str (s := tab64) un_9 rfl ht1 ?_;refine conv_i64 it_5_3 ak ?_;refine qA ak ?_;refine ze rfl ?_;have hf : n < 2 ^ (48 + tb.toNat) ∧ 2 ^ (48 + tb.toNat) ≤ 2 * n := len_fin (by rw [← hxe]; exact ht2) (by rw [← hxe]; omega)
    have hge : 1 ≤ 48 + tb.toNat := by
     apply Decidable.byContradiction; intro e;have e0 : 48 + tb.toNat = 0 := by omega
     rw [e0] at hf; omega
    refine ⟨⟨48 + tb.toNat, by first | rfl | (congr 1; omega), hf.1, hf.2, by omega, hge⟩, rfl⟩
  ·
   refine geqB (fun c14 => ?_) (fun c14 => ?_)
   ·
    have hx : n / 2 ^ 32 / 2 ^ 8 < 256 := by omega
    have hx0 : 0 < n / 2 ^ 32 / 2 ^ 8 := by omega
    obtain ⟨tb, ht1, ht2, ht3, ht4⟩ := tab_at hx;have hxe : n / 2 ^ 32 / 2 ^ 8 = n / 2 ^ 40 := by simp only [Nat.div_div_eq_div_mul, ← Nat.pow_add]
    refine shr_nat (n := 8) ah ?_;refine qA ak ?_;refine conv_u8n it_52_5 af ?_;refine index_str (s := tab64) un_9 rfl ht1 ?_;refine conv_i64 it_5_3 ak ?_;refine qA ak ?_;refine ze rfl ?_;have hf : n < 2 ^ (40 + tb.toNat) ∧ 2 ^ (40 + tb.toNat) ≤ 2 * n := len_fin (by rw [← hxe]; exact ht2) (by rw [← hxe]; omega)
    have hge : 1 ≤ 40 + tb.toNat := by
     apply Decidable.byContradiction; intro e;have e0 : 40 + tb.toNat = 0 := by omega
     rw [e0] at hf; omega
    refine ⟨⟨40 + tb.toNat, by first | rfl | (congr 1; omega), hf.1, hf.2, by omega, hge⟩, rfl⟩
   ·
    have hx : n / 2 ^ 32 < 256 := by omega
    have hx0 : 0 < n / 2 ^ 32 := by omega
    obtain ⟨tb, ht1, ht2, ht3, ht4⟩ := tab_at hx;have hxe : n / 2 ^ 32 = n / 2 ^ 32 := rfl;refine conv_u8n it_52_5 af ?_;refine index_str (s := tab64) un_9 rfl ht1 ?_;refine conv_i64 it_5_3 ak ?_;refine qA ak ?_;refine ze rfl ?_;have hf : n < 2 ^ (32 + tb.toNat) ∧ 2 ^ (32 + tb.toNat) ≤ 2 * n := len_fin (by rw [← hxe]; exact ht2) (by rw [← hxe]; omega)
    have hge : 1 ≤ 32 + tb.toNat := by
     apply Decidable.byContradiction; intro e;have e0 : 32 + tb.toNat = 0 := by omega
     rw [e0] at hf; omega
    refine ⟨⟨32 + tb.toNat, by first | rfl | (congr 1; omega), hf.1, hf.2, by omega, hge⟩, rfl⟩
 ·
  refine geqB (fun c8 => ?_) (fun c8 => ?_)
  ·
   refine shr_nat (n := 16) ah ?_;refine qA ak ?_;refine geqB (fun c14 => ?_) (fun c14 => ?_)
   ·
    have hx : n / 2 ^ 16 / 2 ^ 8 < 256 := by omega
    have hx0 : 0 < n / 2 ^ 16 / 2 ^ 8 := by omega
    obtain ⟨tb, ht1, ht2, ht3, ht4⟩ := tab_at hx;have hxe : n / 2 ^ 16 / 2 ^ 8 = n / 2 ^ 24 := by simp only [Nat.div_div_eq_div_mul, ← Nat.pow_add]
    refine shr_nat (n := 8) ah ?_;refine qA ak ?_;refine conv_u8n it_52_5 af ?_;refine index_str (s := tab64) un_9 rfl ht1 ?_;refine conv_i64 it_5_3 ak ?_;refine qA ak ?_;refine ze rfl ?_;have hf : n < 2 ^ (24 + tb.toNat) ∧ 2 ^ (24 + tb.toNat) ≤ 2 * n := len_fin (by rw [← hxe]; exact ht2) (by rw [← hxe]; omega)
    have hge : 1 ≤ 24 + tb.toNat := by
     apply Decidable.byContradiction; intro e;have e0 : 24 + tb.toNat = 0 := by omega
     rw [e0] at hf; omega
    refine ⟨⟨24 + tb.toNat, by first | rfl | (congr 1; omega), hf.1, hf.2, by omega, hge⟩, rfl⟩
   ·
    have hx : n / 2 ^ 16 < 256 := by omega
    have hx0 : 0 < n / 2 ^ 16 := by omega
    obtain ⟨tb, ht1, ht2, ht3, ht4⟩ := tab_at hx;have hxe : n / 2 ^ 16 = n / 2 ^ 16 := rfl;refine conv_u8n it_52_5 af ?_;refine index_str (s := tab64) un_9 rfl ht1 ?_;refine conv_i64 it_5_3 ak ?_;refine qA ak ?_;refine ze rfl ?_;have hf : n < 2 ^ (16 + tb.toNat) ∧ 2 ^ (16 + tb.toNat) ≤ 2 * n := len_fin (by rw [← hxe]; exact ht2) (by rw [← hxe]; omega)
    have hge : 1 ≤ 16 + tb.toNat := by
     apply Decidable.byContradiction; intro e;have e0 : 16 + tb.toNat = 0 := by omega
     rw [e0] at hf; omega
    refine ⟨⟨16 + tb.toNat, by first | rfl | (congr 1; omega), hf.1, hf.2, by omega, hge⟩, rfl⟩
  ·
   refine geqB (fun c14 => ?_) (fun c14 => ?_)
   ·
    have hx : n / 2 ^ 8 < 256 := by omega
    have hx0 : 0 < n / 2 ^ 8 := by omega
    obtain ⟨tb, ht1, ht2, ht3, ht4⟩ := tab_at hx;have hxe : n / 2 ^ 8 = n / 2 ^ 8 := rfl;refine shr_nat (n := 8) ah ?_;refine qA ak ?_;refine conv_u8n it_52_5 af ?_;refine index_str (s := tab64) un_9 rfl ht1 ?_;refine conv_i64 it_5_3 ak ?_;refine qA ak ?_;refine ze rfl ?_;have hf : n < 2 ^ (8 + tb.toNat) ∧ 2 ^ (8 + tb.toNat) ≤ 2 * n := len_fin (by rw [← hxe]; exact ht2) (by rw [← hxe]; omega)
    have hge : 1 ≤ 8 + tb.toNat := by
     apply Decidable.byContradiction; intro e;have e0 : 8 + tb.toNat = 0 := by omega
     rw [e0] at hf; omega
    refine ⟨⟨8 + tb.toNat, by first | rfl | (congr 1; omega), hf.1, hf.2, by omega, hge⟩, rfl⟩
   ·
    have hx : n < 256 := by omega
    have hx0 : 0 < n := by omega
    obtain ⟨tb, ht1, ht2, ht3, ht4⟩ := tab_at hx;have hxe : n = n / 2 ^ 0 := by simp
    refine conv_u8n it_52_5 af ?_;refine index_str (s := tab64) un_9 rfl ht1 ?_;refine conv_i64 it_5_3 ak ?_;refine qA ak ?_;refine ze rfl ?_;have hf : n < 2 ^ (0 + tb.toNat) ∧ 2 ^ (0 + tb.toNat) ≤ 2 * n := len_fin (by rw [← hxe]; exact ht2) (by rw [← hxe]; omega)
    have hge : 1 ≤ 0 + tb.toNat := by
     apply Decidable.byContradiction; intro e;have e0 : 0 + tb.toNat = 0 := by omega
     rw [e0] at hf; omega
    refine ⟨⟨0 + tb.toNat, by first | rfl | (congr 1; omega), hf.1, hf.2, by omega, hge⟩, rfl⟩
theorem wire_number {c : World} {h : GH} {L : Own} {n : Nat} (hn : n < 18446744073709551616) :
 Fun Tryz.prog c 91 #[.int .u64 (n : Int)] h L (fun u _ L' => (∃ N, L' = N ++ L ∧ OB u (numB n) N)) := by
 refine zA (N := 39) (args := [.int .u64 (n : Int)]) Tryz.func91 ?_;refine leqB (fun c7 => ?_) (fun c7 => ?_)
 ·
  refine conv_u8n it_52_5 af ?_;refine buildSliceO (ls := [[_]]) sl_109 zc_5 (qy ac Parts.nil) rfl rfl (all1 rfl) (all1 rfl) ah ah ?_;intro v10 N10 hv10;refine DoRet.r1 (.tmp rfl) (qh (List.Sublist.append_left kS _)) zl ?_;refine ⟨N10, rfl, ?_⟩;have h1 : numB n = [UInt8.ofNat n] := by unfold numB; rw [if_pos af]
  rw [h1]; unfold OB;have h2 : [UInt8.ofNat n].map u8C = [[.int .u8 (n : Int)]] := by simp [u8C, u8_ofNat]; omega
  rw [h2]; exact hv10
 ·
  refine qc (len64 hn af) ?_;rintro v12 h2 L_ le1 ⟨⟨l, rfl, hl1, hl2, hl3, hl4⟩, rfl⟩;obtain ⟨hk1, hk2, hk3⟩ := bytes_of_bits hl1 hl2 hl3 hl4;obtain ⟨hd1, hd2⟩ := digs_get 8 _ n hk3 hk1 (.inr hk2);obtain ⟨k, hk⟩ : ∃ k, k = (l + 7) / 8 := ⟨_, rfl⟩;rw [← hk] at hk1 hk2 hk3 hd1 hd2;have hk0 : 1 ≤ k := by omega
  refine qA ak ?_;refine quo_nat (a := l + 7) (b := 8) ah (by refine wrap_i64 ?_; unfold InI64; omega) ?_;rw [← hk];refine qA ak ?_;refine make_own (k := k + 1) un_109 (zero1_of zv_5 z_5 si_5 rfl) rfl af rfl af ?_;intro v17 N17 hv17;obtain ⟨b17, rest, cap, e17, rfl, hcap1, hcap2, hcap3⟩ := hv17.toRow am;have hrs := hv17.sizes;have hro := hv17.ones;rw [List.length_replicate] at hcap1 hcap2 e17;subst e17;refine add_i64n (a := 247) af ?_;refine conv_u8n it_3_5 af ?_;refine index_own (k := 0) sl_109 rfl am ?_;refine store_row (k := 0) si_5 ac ai ad kR aa am af kR.symm ?_;refine qL (fun s0 nn s' h' L' => ∃ (i : Nat) (xs : List (List Value)), s' = [(24, .int .i64 i)] ++ qR s0 [0, 3, 4, 23] ∧ nn = k - i ∧ (b17, rowO B5 xs rest) :: L = L' ∧ i ≤ k ∧ xs.length = k + 1 ∧ (∀ l ∈ xs, l.length = 1) ∧ (∀ l ∈ xs, l.all oneCell = true) ∧ xs[0]? = some (u8C (UInt8.ofNat (247 + k))) ∧ ∀ j, j < i → xs[k - j]? = some (u8C (UInt8.ofNat (n / 256 ^ j)))) ⟨0, _, rfl, rfl, rfl, ?_⟩ zg zl zn ?_
  · refine ⟨Nat.zero_le _, by simp, set_all hrs rfl, set_all hro rfl, ?_, fun j hj => absurd hj (Nat.not_lt_zero j)⟩
    rw [List.getElem?_set_self am, u8C, u8_ofNat, Nat.mod_eq_of_lt af]
  rintro nn s1 h3 L_ le4 ⟨i, xs, rfl, rfl, rfl, hik, hxl, hxs, hxo, hx0, hxj⟩;refine lssB (fun c25 => ?_) (fun c25 => ?_)
  ·
   have hik2 : i < k := by omega
   refine sub_i64n af af ?_;refine mul_i64n (a := 8) af ?_;refine shr_nat (n := 8 * i) (by show _ ≤ 64; omega) ?_;refine conv_u8 it_52_5 ?_;refine index_own (k := k - i) sl_109 rfl af ?_;refine store_row (k := k - i) si_5 ac ai ad kR aa af af kR.symm ?_;refine qA ak ?_
   exact back (m := _) ⟨i + 1, _, rfl, rfl, rfl, by omega, by simp [hxl], set_all hxs rfl, set_all hxo rfl, by rw [List.getElem?_set_ne af]; exact hx0, fun j hj => by
    rcases Nat.lt_or_ge j i with h1 | h1
    · rw [List.getElem?_set_ne af]; exact hxj j h1
    · have : j = i := by omega
      subst this;rw [List.getElem?_set_self af, u8C, u8_ofNat, Nat.pow_mul]⟩ af zg zl zn
  ·
   refine DoRet.r1 (.tmp rfl) (qh (zv kS)) zl ?_;have hik2 : i = k := by omega
   subst hik2;refine ⟨[(b17, rowO B5 xs rest)], rfl, ?_⟩
   have hx : xs = (numB n).map u8C := by
    unfold numB; rw [if_neg af, hd1];apply List.ext_getElem?; intro j;rcases Nat.eq_zero_or_pos j with h0 | h0
    · subst h0; rw [hx0]; rfl
    · rcases Nat.lt_or_ge j (i + 1) with h1 | h1
      · have h2 := hxj (i - j) af
        rw [show i - (i - j) = j by omega] at h2;obtain ⟨j', rfl⟩ : ∃ j', j = j' + 1 := ⟨j - 1, by omega⟩;rw [h2, List.getElem?_map, List.getElem?_cons_succ, List.getElem?_reverse af, hd1, hd2 _ af, show i - (j' + 1) = i - 1 - j' by omega]; rfl
      · rw [List.getElem?_eq_none af, List.getElem?_eq_none (by simp [hd1]; omega)]
   unfold OB;rw [← hx];exact OS.ofRow hxs hxo af hcap1 af hcap3
end Go.Brd
namespace Go.Brd
open Go Go.Brd Go.Proofs
set_option linter.unusedVariables false
theorem it_3_52 : intT Tryz.prog 3 52 .u64 = true := by kernel_rfl
theorem OB.snoc {v v' : Value} {x : List UInt8} {b : Nat} {N : Own} {q : Value} (h : OS B5 1 v (x.map u8C ++ [[.int .u8 ((b % 256 : Nat) : Int)]]) N) : OB v (x ++ [UInt8.ofNat b]) N := by
 unfold OB; rw [List.map_append, List.map_cons, List.map_nil, u8C, u8_ofNat]; exact h
theorem OB.one {v : Value} {b : Nat} {N : Own} (hb : b < 256) (h : OS B5 1 v [[.int .u8 (b : Int)]] N) : OB v [UInt8.ofNat b] N := by
 have e : [UInt8.ofNat b].map u8C = [[.int .u8 (b : Int)]] := by rw [List.map_cons, List.map_nil, u8C, u8_ofNat, Nat.mod_eq_of_lt hb]
 unfold OB; rw [e]; exact h
theorem RBytes.one {h : GH} {v : Value} {b : Nat} (hb : b < 256) (s : Sl h v 1 [[.int .u8 (b : Int)]]) : RBytes h v [UInt8.ofNat b] := by
 have e : [UInt8.ofNat b].map u8C = [[.int .u8 (b : Int)]] := by rw [List.map_cons, List.map_nil, u8C, u8_ofNat, Nat.mod_eq_of_lt hb]
 unfold RBytes; rw [e]; exact s
theorem RBytes.oneB {h : GH} {v : Value} {b : UInt8} (s : Sl h v 1 [[u8V b]]) : RBytes h v [b] := s
theorem OB.app {v : Value} {x y : List UInt8} {N : Own} (h : OS B5 1 v (x.map u8C ++ y.map u8C) N) : OB v (x ++ y) N := by
 unfold OB; rw [List.map_append]; exact h
theorem OB.len {v : Value} {x : List UInt8} {N : Own} (h : OB v x N) : True := trivial
theorem digs_step {f m : Nat} (hm : 0 < m) : digs (f + 1) m = UInt8.ofNat m :: digs f (m / 256) := by simp [digs]; omega
theorem digs_zero (f : Nat) : digs f 0 = [] := by cases f <;> simp [digs]
theorem digs_len : ∀ (f n : Nat), (digs f n).length ≤ f
 | 0, _ => by simp [digs]
 | f + 1, n => by simp only [digs]; split; · simp
                  · simp; exact digs_len f _
theorem numB_len (n : Nat) : (numB n).length ≤ 9 := by
 unfold numB; split
 · simp
 · simp; exact digs_len 8 n
theorem ofNat_mod (n : Nat) : UInt8.ofNat (n % 256) = UInt8.ofNat n := by
 apply UInt8.toNat_inj.1; simp
theorem ref_number {c : World} {h : GH} {L : Own} {n : Nat} (hn : n < 18446744073709551616) :
 Fun Tryz.prog c 164 #[.int .u64 (n : Int)] h L (fun u _ L' => ∃ N, L' = N ++ L ∧ OB u (numB n) N) := by
 refine zA (N := 41) (args := [.int .u64 (n : Int)]) Tryz.func164 ?_;refine leqB (fun c7 => ?_) (fun c7 => ?_)
 ·
  refine conv_u8n it_52_5 af ?_;refine buildSliceO (ls := [[_]]) sl_109 zc_5 (qy ac Parts.nil) rfl rfl (all1 rfl) (all1 rfl) ah ah ?_;intro v10 N10 hv10;refine DoRet.r1 (.tmp rfl) (qh (List.Sublist.append_left kS _)) zl ?_;refine ⟨N10, rfl, ?_⟩;have h1 : numB n = [UInt8.ofNat n] := by unfold numB; rw [if_pos af]
  rw [h1]; exact OB.one af hv10
 ·
  refine qL (fun s0 nn s' h' L' => ∃ (m : Nat) (ds : List UInt8) (v : Value) (N : Own), s' = [(0, .int .u64 (m : Nat)), (3, v)] ++ qR s0 [] ∧ nn = 2 * m ∧ N ++ L = L' ∧ digs 8 n = ds ++ digs (8 - ds.length) m ∧ m < 256 ^ (8 - ds.length) ∧ ds.length ≤ 8 ∧ OB v ds N) ⟨n, [], _, [], rfl, rfl, rfl, ?_⟩ zg zl zn ?_
  · exact ⟨rfl, hn, by simp, OS.nil _ _⟩
  rintro nn s1 h1 L_ le2 ⟨m, ds, v, N, rfl, rfl, rfl, hdig, hm, hdl, hv⟩;refine gtrB (fun c12 => ?_) (fun c12 => ?_)
  ·
   have hm0 : 0 < m := by omega
   have hm64 : m < 18446744073709551616 := Nat.lt_of_lt_of_le hm (show 256 ^ (8 - ds.length) ≤ 256 ^ 8 from Nat.pow_le_pow_right ah af)
   have hdl2 : ds.length < 8 := by
    apply Decidable.byContradiction; intro e;rw [show 8 - ds.length = 0 by omega] at hm; simp at hm; omega
   refine rem_nat (b := 256) af ?_;refine conv_u8n it_52_5 af ?_;refine qB sl_109 z_5 rfl ag ah aj ?_;intro v17 h4 le3 hv17;refine qp sl_109 sl_109 z_5 aa aa kR ar ?_;intro v18 N18 hv18;refine ⟨_, kR.symm, ?_⟩;refine quo_nat (b := 256) af (by rw [wrap_u64]; omega) ?_
   exact back (m := _) ⟨m / 256, ds ++ [UInt8.ofNat m], v18, N18, rfl, rfl, rfl, by
    rw [hdig, show 8 - ds.length = (8 - (ds.length + 1)) + 1 by omega, digs_step hm0]; simp, by
    rw [List.length_append]; rw [show 8 - ds.length = (8 - (ds.length + 1)) + 1 by omega, Nat.pow_succ] at hm; exact (Nat.div_lt_iff_lt_mul ah).2 hm, by simp; omega, by
    refine OB.snoc (v' := v18) (q := v18) ?_;exact hv18⟩ af zg zl zn
  ·
   have hm0 : m = 0 := by omega
   subst hm0;rw [digs_zero, List.append_nil] at hdig;have hdl := hdl
   have hnn : 0 < ds.length := by
    rw [← hdig]; rw [show (8 : Nat) = 7 + 1 from rfl, digs_step af]; simp
   unfold OB at hv;obtain ⟨b3, rest, cap, e3, rfl, hcap1, hcap2, hcap3⟩ := hv.toRow (by simpa using hnn);rw [List.length_map] at e3;subst e3;have hds := hv.sizes;refine len_slice sl_109 ?_;refine add_i64n (a := 247) af ?_;refine conv_u8n it_3_5 af ?_;refine buildSliceO (ls := [[_]]) sl_109 zc_5 (qy ac Parts.nil) rfl rfl (all1 rfl) (all1 rfl) ah ah ?_;intro v25 N25 hv25;refine len_slice sl_109 ?_;refine sub_i64 ak ?_;refine qL (fun s0 nn s' h' L' => ∃ (i : Nat) (v : Value) (N : Own), s' = [(4, v), (5, .int .i64 ((i : Int) - 1))] ++ qR s0 [3] ∧ nn = 2 * i ∧ N ++ ((b3, rowO B5 (ds.map u8C) rest) :: L) = L' ∧ i ≤ ds.length ∧ OB v (UInt8.ofNat (247 + ds.length) :: (ds.drop i).reverse) N) ⟨ds.length, _, _, rfl, rfl, rfl, ?_⟩ zg zl zn ?_
   · exact ⟨Nat.le_refl _, by rw [List.drop_length]; exact OB.one af hv25⟩
   rintro nn s1 h5 L_ le6 ⟨i, v, N, rfl, rfl, rfl, hil, hv⟩;refine geqB (fun c30 => ?_) (fun c30 => ?_)
   ·
    have hi1 : 0 < i := by omega
    obtain ⟨b, hb⟩ := qE (l := ds) (k := i - 1) af;refine index_own (k := i - 1) sl_109 af af ?_;refine load_row1 sc_5 (zq kH) aa (by rw [List.getElem?_map, hb]; rfl) af ?_;refine qB sl_109 z_5 rfl ag ah aj ?_;intro v38 h8 le7 hv38;refine qp sl_109 sl_109 z_5 aa aa kR ar ?_;intro v39 N39 hv39;refine ⟨_, kR.symm, ?_⟩;refine sub_i64 ak ?_
    exact back (m := _) ⟨i - 1, v39, N39, (by rw [show ((i - 1 : Nat) : Int) = (i : Int) - 1 by omega]), rfl, rfl, by omega, by
     have e : (ds.drop (i - 1)).reverse = (ds.drop i).reverse ++ [b] := by
      obtain ⟨h5, h6⟩ := List.getElem?_eq_some_iff.1 hb;rw [List.drop_eq_getElem_cons h5, h6, show i - 1 + 1 = i by omega]; simp
     rw [e, ← List.cons_append]; exact OB.app hv39⟩ af zg zl zn
   ·
    refine DoRet.r1 (.tmp rfl) (qh (List.Sublist.append_left (zu kS) _)) zl ?_;have hi0 : i = 0 := by omega
    subst hi0;refine ⟨N, rfl, ?_⟩;unfold numB; rw [if_neg af, hdig]; exact hv
def idsB (l : List ID) : List UInt8 := numB l.length ++ l.flatten
def textB (s : List UInt8) : List UInt8 := numB s.length ++ s
def zig (n : Int) : Nat := if 0 ≤ n then 2 * n.toNat else 2 * (-(n + 1)).toNat + 1
def be8 (b : Nat) : List UInt8 := (List.range 8).map fun i => UInt8.ofNat (b / 2 ^ (56 - 8 * i))
def valB (v : Val) : List UInt8 := UInt8.ofNat v.kind :: (if v.kind = 1 then numB (zig v.num) else if v.kind = 2 then be8 v.bits else textB v.text.data.toList)
theorem flat_snoc {l : List ID} {k : Nat} {x : ID} (h : l[k]? = some x) : (l.take (k + 1)).flatten = (l.take k).flatten ++ x := by
 rw [take_snoc h, List.flatten_append]; simp
theorem flat_len {l : List ID} (h : ∀ x ∈ l, x.length = 32) : ∀ k, (l.take k).flatten.length ≤ l.length * 32 := fun k => by
 have e : ∀ (m : List ID), (∀ x ∈ m, x.length = 32) → m.flatten.length = m.length * 32 := by
  intro m; induction m with
  | nil => simp
  | cons a r ih => intro hm; simp only [List.flatten_cons, List.length_append, List.length_cons]; rw [ih (fun x hx => hm x (by simp [hx])), hm a am]; omega
 rw [e _ (fun x hx => h x (List.mem_of_mem_take hx)), List.length_take];exact Nat.mul_le_mul_right 32 (Nat.min_le_right _ _)
theorem RIds.len32 {h : GH} {v : Value} {l : List ID} (hs : RIds h v l) : ∀ x ∈ l, x.length = 32 := fun x hx => by
 have := hs.sizes (idC x) (List.mem_map.2 ⟨x, hx, rfl⟩); rwa [idC_length] at this
theorem ref_list {c : World} {h : GH} {L : Own} {v : Value} {l : List ID} (hs : RIds h v l) (hsm : l.length ≤ 10000) :
 Fun Tryz.prog c 211 #[v] h L (fun u _ L' => ∃ N, L' = N ++ L ∧ OB u (idsB l) N) := by
 have h32 := hs.len32;have hnl := numB_len l.length;refine zA (N := 22) (args := [v]) Tryz.func211 ?_;refine qm sl_22 aa ?_;refine conv_u64 it_3_52 af ?_;refine qc (ref_number af) ?_;rintro v8 h2 L_ le1 ⟨N8, rfl, hv8⟩;replace hs := hs.mono le1;refine qL (fun s0 nn s' h' L' => ∃ (k : Nat) (u : Value) (N : Own), s' = [(3, u), (4, .int .i64 k)] ++ qR s0 [0] ∧ nn = l.length - k ∧ N ++ L = L' ∧ k ≤ l.length ∧ OB u (numB l.length ++ (l.take k).flatten) N) ⟨0, _, _, rfl, rfl, rfl, ?_⟩ zg zl zn ?_
 · exact ⟨Nat.zero_le _, by simpa using hv8⟩
 rintro nn s1 h3 L_ le4 ⟨k, u, N, rfl, rfl, rfl, hk, hu⟩;replace hs := hs.mono le4;refine qm sl_22 aa ?_;refine lssB (fun c12 => ?_) (fun c12 => ?_)
 ·
  have hkl : k < l.length := by omega
  obtain ⟨x, hx⟩ := qE hkl;have hx32 := h32 x (List.mem_of_getElem? hx);have hfl := flat_len h32 k;refine qi (k := _) sl_22 aa rfl aa ?_;intro p18 r18 hl18 hp18;refine slice_id ar_74 aa aa ?_;intro v19 hv19;refine qp sl_109 sl_109 z_5 aa aa kR (by simp only [List.length_map, List.length_append]; omega) ?_;intro v20 N20 hv20;refine ⟨_, kR.symm, ?_⟩;refine qA ak ?_
  exact back (m := _) ⟨k + 1, v20, N20, rfl, rfl, rfl, by omega, by
   rw [flat_snoc hx, ← List.append_assoc]; exact OB.app hv20⟩ af zg zl zn
 ·
  refine DoRet.r1 (.tmp rfl) (qh (List.Sublist.append_left kS _)) zl ?_;have hk2 : k = l.length := by omega
  subst hk2;rw [List.take_length] at hu;exact ⟨N, rfl, hu⟩
theorem ref_text {c : World} {h : GH} {L : Own} {v : Value} {s : List UInt8} (hs : RBytes h v s) (hsm : s.length ≤ 100000) :
 Fun Tryz.prog c 212 #[v] h L (fun u _ L' => ∃ N, L' = N ++ L ∧ OB u (textB s) N) := by
 have hnl := numB_len s.length;refine zA (N := 9) (args := [v]) Tryz.func212 ?_;refine qm sl_109 aa ?_;refine conv_u64 it_3_52 af ?_;refine qc (ref_number af) ?_;rintro v6 h2 L_ le1 ⟨N6, rfl, hv6⟩;replace hs := hs.mono le1;refine qp sl_109 sl_109 z_5 aa aa kR (by simp only [List.length_map]; omega) ?_;intro v8 N8 hv8;refine ⟨_, kR.symm, ?_⟩;refine DoRet.r1 (.tmp rfl) (qh (List.Sublist.append_left kS _)) zl ?_;exact ⟨N8, rfl, OB.app hv8⟩
end Go.Brd
namespace Go.Brd
open Go Go.Brd Go.Proofs
set_option linter.unusedVariables false
theorem it_2_52 : intT Tryz.prog 2 52 .u64 = true := by kernel_rfl
theorem un_5 : Tryz.prog.underlying 5 = some (.int .u8) := by kernel_rfl
theorem zig_eq {n : Int} (h : -9223372036854775808 ≤ n ∧ n ≤ 9223372036854775807) : (u64of n * 2 ^ 1 % 18446744073709551616) ^^^ u64of (n.fdiv (2 ^ 63)) = zig n := by
 unfold zig u64of;split
 · have h1 : n.fdiv (2 ^ 63) = 0 := by rw [Int.fdiv_eq_ediv_of_nonneg _ ah]; omega
   rw [h1]; simp; omega
 · have h1 : n.fdiv (2 ^ 63) = -1 := by rw [Int.fdiv_eq_ediv_of_nonneg _ ah]; omega
   rw [h1];have h2 : ((-1 : Int) % 18446744073709551616).toNat = 18446744073709551615 := by decide
   rw [h2];obtain ⟨m, hm, hm2⟩ : ∃ m : Nat, (n % 18446744073709551616).toNat * 2 ^ 1 % 18446744073709551616 = m ∧ m < 18446744073709551616 := ⟨_, rfl, Nat.mod_lt _ ah⟩;rw [hm]
   have e : m ^^^ 18446744073709551615 = 18446744073709551615 - m := by
    have h1 : (BitVec.ofNat 64 m ^^^ BitVec.allOnes 64) = BitVec.ofNat 64 (18446744073709551615 - m) := by
     rw [BitVec.xor_allOnes];apply BitVec.eq_of_toNat_eq;rw [BitVec.toNat_not]; simp; omega
    have h3 := congrArg BitVec.toNat h1;rw [BitVec.toNat_xor] at h3;simp at h3;rw [Nat.mod_eq_of_lt hm2, Nat.mod_eq_of_lt af] at h3;exact h3
   rw [e]; omega
theorem zig_lt {n : Int} (h : -9223372036854775808 ≤ n ∧ n ≤ 9223372036854775807) : zig n < 18446744073709551616 := by unfold zig; split <;> omega
theorem valOk_kind {v : Val} (h : valOk v = true) : v.kind = 1 ∨ v.kind = 2 ∨ v.kind = 3 := by
 unfold valOk at h;simp only [Bool.and_eq_true, decide_eq_true_eq] at h;obtain ⟨h1, h2⟩ := h;apply Decidable.byContradiction; intro hn;have e : wantV v = val0 := want0 af af af;rw [e] at h1; rw [h1] at h2; exact h2 rfl
theorem be8_len (b : Nat) : (be8 b).length = 8 := by simp [be8]
theorem be8_take {b k : Nat} (h : k < 8) : (be8 b).take (k + 1) = (be8 b).take k ++ [UInt8.ofNat (b / 2 ^ (56 - 8 * k))] := by
 refine take_snoc ?_;unfold be8; rw [List.getElem?_map, List.getElem?_range h]; rfl
theorem wire_signed {c : World} {h : GH} {L : Own} {n : Int} (hn : -9223372036854775808 ≤ n ∧ n ≤ 9223372036854775807) :
 Fun Tryz.prog c 147 #[.int .i64 n] h L (fun u _ L' => ∃ N, L' = N ++ L ∧ OB u (numB (zig n)) N) := by
 refine zA (N := 11) (args := [.int .i64 n]) Tryz.func147 ?_;refine conv_u64w it_2_52 ?_;refine shl_u64 (n := 1) ah ?_;refine shr_i64 (n := 63) ah ?_;refine conv_u64w it_2_52 ?_;refine xor_u64 (Nat.mod_lt _ ah) (u64of_lt _) ?_;rw [zig_eq hn];refine qc (wire_number (zig_lt hn)) ?_;rintro v10 h2 L_ le1 ⟨N10, rfl, hv10⟩;refine DoRet.r1 (.tmp rfl) (qh (List.Sublist.append_left kS _)) zl ?_;exact ⟨N10, rfl, hv10⟩
theorem ref_signed {c : World} {h : GH} {L : Own} {n : Int} (hn : -9223372036854775808 ≤ n ∧ n ≤ 9223372036854775807) :
 Fun Tryz.prog c 235 #[.int .i64 n] h L (fun u _ L' => ∃ N, L' = N ++ L ∧ OB u (numB (zig n)) N) := by
 refine zA (N := 16) (args := [.int .i64 n]) Tryz.func235 ?_;refine geqB (fun c4 => ?_) (fun c4 => ?_)
 ·
  obtain ⟨m, rfl⟩ : ∃ m : Nat, n = (m : Int) := ⟨n.toNat, by omega⟩;refine conv_u64 it_2_52 af ?_;refine mul_u64n (a := 2) af ?_;refine qc (ref_number af) ?_;rintro v8 h2 L_ le1 ⟨N8, rfl, hv8⟩;refine DoRet.r1 (.tmp rfl) (qh (List.Sublist.append_left kS _)) zl ?_;refine ⟨N8, rfl, ?_⟩;have e : zig (m : Int) = 2 * m := by unfold zig; rw [if_pos af]; simp
  rw [e]; exact hv8
 ·
  obtain ⟨m, rfl⟩ : ∃ m : Nat, n = -((m : Int) + 1) := ⟨(-(n + 1)).toNat, by omega⟩;refine qA ak ?_;refine neg_i64 ak ?_;rw [show -(-((m : Int) + 1) + 1) = (m : Int) by omega];refine conv_u64 it_2_52 af ?_;refine mul_u64n (a := 2) af ?_;refine add_u64n (b := 1) af ?_;refine qc (ref_number af) ?_;rintro v15 h4 L_ le3 ⟨N15, rfl, hv15⟩;refine DoRet.r1 (.tmp rfl) (qh (List.Sublist.append_left kS _)) zl ?_;refine ⟨N15, rfl, ?_⟩;have e : zig (-((m : Int) + 1)) = 2 * m + 1 := by unfold zig; rw [if_neg af]; omega
  rw [e]; exact hv15
theorem wire_bytes {c : World} {h : GH} {L : Own} {v : Value} {s : List UInt8} (hs : RBytes h v s) (hsm : s.length ≤ 10000) :
 Fun Tryz.prog c 92 #[v] h L (fun u _ L' => ∃ x N, L' = N ++ L ∧ u = .tuple #[x, .int .i64 0] ∧ OB x (textB s) N) := by
 have hnl := numB_len s.length;refine zA (N := 13) (args := [v]) Tryz.func92 ?_;refine qm sl_109 aa ?_;refine gtrB (fun c6 => ?_) (fun c6 => ?_)
 ·
  exact absurd hsm af
 ·
  refine qm sl_109 aa ?_;refine conv_u64 it_3_52 af ?_;refine qc (wire_number af) ?_;rintro v10 h2 L_ le1 ⟨N10, rfl, hv10⟩;replace hs := hs.mono le1;refine qp sl_109 sl_109 z_5 aa aa kR (by simp only [List.length_map]; omega) ?_;intro v12 N12 hv12;refine ⟨_, kR.symm, ?_⟩;refine DoRet.r2 (.tmp rfl) (.tmp rfl) (qh (List.Sublist.append_left kS _)) zl ?_;exact ⟨_, N12, rfl, rfl, OB.app hv12⟩
theorem ref_vbytes {c : World} {h : GH} {L : Own} {v : Val} (hv : ValWF v) (hvt : v.text.size ≤ 10000) :
 Fun Tryz.prog c 213 #[.agg (valC v).toArray] h L (fun u _ L' => ∃ N, L' = N ++ L ∧ OB u (valB v) N) := by
 have hz1 := numB_len (zig v.num);have hz2 := numB_len v.text.data.toList.length;have hsz : v.text.data.toList.length = v.text.size := by simp
 refine zA (N := 39) (args := [.agg (valC v).toArray]) Tryz.func213 ?_;refine box_at rfl ?_;intro p1 h2 le1 hp1;refine qf fi_55_0 aa ?_;intro p5 hp5;refine ql sc_5 aa ?_;refine buildSliceO (ls := [[_]]) sl_109 zc_5 (qy ac Parts.nil) rfl rfl (all1 rfl) (all1 rfl) ah ah ?_;intro v7 N7 hv7;replace hv7 := OB.one hv.kind hv7;refine qf fi_55_0 aa ?_;intro p8 hp8;refine ql sc_5 aa ?_;refine eqlB (fun c11 => ?_) (fun c11 => ?_)
 ·
  refine qf fi_55_1 aa ?_;intro p13 hp13;refine ql sc_2 aa ?_;refine qc (Fun.frozen al (ref_signed hv.num)) ?_;rintro v15 h4 L_ le3 ⟨rfl, hv15⟩;refine qp sl_109 sl_109 z_5 aa aa kR (by simp only [List.length_map, List.length_cons, List.length_nil]; omega) ?_;intro v16 N16 hv16;refine ⟨_, kR.symm, ?_⟩;refine DoRet.r1 (.tmp rfl) (qh (List.Sublist.append_left kS _)) zl ?_;refine ⟨N16, rfl, ?_⟩;have e : valB v = [UInt8.ofNat v.kind] ++ numB (zig v.num) := by unfold valB; rw [if_pos af]; rfl
  rw [e]; exact OB.app hv16
 ·
  refine eqlB (fun c18 => ?_) (fun c18 => ?_)
  ·
   refine qL (fun s0 nn s' h' L' => ∃ (k : Nat) (u : Value) (N : Own), s' = [(3, u), (4, .int .i64 (7 - (k : Int)))] ++ qR s0 [1] ∧ nn = 8 - k ∧ N ++ L = L' ∧ k ≤ 8 ∧ OB u (UInt8.ofNat v.kind :: (be8 v.bits).take k) N) ⟨0, _, _, rfl, rfl, rfl, ?_⟩ zg zl zn ?_
   · exact ⟨Nat.zero_le _, hv7⟩
   rintro nn s1 h5 L_ le6 ⟨k, u, N, rfl, rfl, rfl, hk, hu⟩;replace hp1 := hp1.mono le6;refine geqB (fun c20 => ?_) (fun c20 => ?_)
   ·
    have hk8 : k < 8 := by omega
    refine qf fi_55_2 aa ?_;intro p24 hp24;refine ql sc_52 aa ?_;rw [show (7 : Int) - (k : Int) = ((7 - k : Nat) : Int) by omega];refine mul_i64n (a := 8) af ?_;refine shr_nat (n := 8 * (7 - k)) (by show _ ≤ 64; omega) ?_;refine conv_u8 it_52_5 ?_;refine qB sl_109 z_5 rfl ag ah aj ?_;intro v30 h8 le7 hv30;refine qp sl_109 sl_109 z_5 aa aa kR (by simp only [List.length_map, List.length_cons, List.length_take, List.length_nil]; omega) ?_;intro v31 N31 hv31;refine ⟨_, kR.symm, ?_⟩;refine sub_i64 ak ?_
    exact back (m := _) ⟨k + 1, v31, N31, (by rw [show (7 : Int) - ((k + 1 : Nat) : Int) = ((7 - k : Nat) : Int) - 1 by omega]), rfl, rfl, by omega, by
     rw [be8_take hk8, ← List.cons_append, show 56 - 8 * k = 8 * (7 - k) by omega];exact OB.snoc (q := v31) (v' := v31) hv31⟩ af zg zl zn
   ·
    refine DoRet.r1 (.tmp rfl) (qh (List.Sublist.append_left kS _)) zl ?_;have hk2 : k = 8 := by omega
    subst hk2;refine ⟨N, rfl, ?_⟩;have e : valB v = UInt8.ofNat v.kind :: be8 v.bits := by unfold valB; rw [if_neg af, if_pos af]
    rw [e, ← List.take_of_length_le (l := be8 v.bits) (i := 8) (by rw [be8_len]; exact Nat.le_refl _)]; exact hu
  ·
   refine qf fi_55_3 aa ?_;intro p34 hp34;refine ql sc_9 aa ?_;refine strBytes un_9 un_109 un_5 af ?_;intro v36 h10 le9 hv36;refine qc (Fun.frozen (by rw [List.length_map]; unfold textB; rw [List.length_append]; omega) (ref_text hv36 af)) ?_;rintro v37 h12 L_ le11 ⟨rfl, hv37⟩;refine qp sl_109 sl_109 z_5 aa aa kR (by simp only [List.length_map, List.length_cons, List.length_nil]; unfold textB; rw [List.length_append]; omega) ?_;intro v38 N38 hv38;refine ⟨_, kR.symm, ?_⟩;refine DoRet.r1 (.tmp rfl) (qh (List.Sublist.append_left kS _)) zl ?_;refine ⟨N38, rfl, ?_⟩;have e : valB v = [UInt8.ofNat v.kind] ++ textB v.text.data.toList := by unfold valB; rw [if_neg af, if_neg af]; rfl
   rw [e]; exact OB.app hv38
theorem value_encode {c : World} {h : GH} {L : Own} {v : Val} (hv : ValWF v) (hvt : v.text.size ≤ 10000) (hok : valOk v = true) :
 Fun Tryz.prog c 93 #[.agg (valC v).toArray] h L (fun u _ L' => ∃ x N, L' = N ++ L ∧ u = .tuple #[x, .int .i64 0] ∧ OB x (valB v) N) := by
 have hz1 := numB_len (zig v.num);have hz2 := numB_len v.text.data.toList.length;have hsz : v.text.data.toList.length = v.text.size := by simp
 have hkind : v.kind = 1 ∨ v.kind = 2 ∨ v.kind = 3 := valOk_kind hok;refine zA (N := 53) (args := [.agg (valC v).toArray]) Tryz.func93 ?_;refine box_at rfl ?_;intro p1 h2 le1 hp1;refine qX ag_55 aa ag ?_;refine qc (value_check hv af) ?_;rintro v10 h4 L_ le3 ⟨rfl, rfl⟩;replace hp1 := hp1.mono le3;refine neqB (fun c12 => ?_) (fun c12 => ?_)
 ·
  rw [if_pos hok] at c12; exact absurd rfl c12
 ·
  refine qf fi_55_0 aa ?_;intro p14 hp14;refine ql sc_5 aa ?_;refine buildSliceO (ls := [[_]]) sl_109 zc_5 (qy ac Parts.nil) rfl rfl (all1 rfl) (all1 rfl) ah ah ?_;intro v16 N16 hv16;replace hv16 := OB.one hv.kind hv16;refine qf fi_55_0 aa ?_;intro p17 hp17;refine ql sc_5 aa ?_;refine eqlB (fun c20 => ?_) (fun c20 => ?_)
  ·
   refine qf fi_55_1 aa ?_;intro p22 hp22;refine ql sc_2 aa ?_;refine qc (Fun.frozen al (wire_signed hv.num)) ?_;rintro v24 h6 L_ le5 ⟨rfl, hv24⟩;refine qp sl_109 sl_109 z_5 aa aa kR (by simp only [List.length_map, List.length_cons, List.length_nil]; omega) ?_;intro v25 N25 hv25;refine ⟨_, kR.symm, ?_⟩;refine DoRet.r2 (.tmp rfl) (.tmp rfl) (qh (List.Sublist.append_left kS _)) zl ?_;refine ⟨_, N25, rfl, rfl, ?_⟩;have e : valB v = [UInt8.ofNat v.kind] ++ numB (zig v.num) := by unfold valB; rw [if_pos af]; rfl
   rw [e]; exact OB.app hv25
  ·
   refine eqlB (fun c27 => ?_) (fun c27 => ?_)
   ·
    refine qL (fun s0 nn s' h' L' => ∃ (k : Nat) (u : Value) (N : Own), s' = [(5, u), (6, .int .i64 (56 - 8 * (k : Int)))] ++ qR s0 [1] ∧ nn = 8 - k ∧ N ++ L = L' ∧ k ≤ 8 ∧ OB u (UInt8.ofNat v.kind :: (be8 v.bits).take k) N) ⟨0, _, _, rfl, rfl, rfl, ?_⟩ zg zl zn ?_
    · exact ⟨Nat.zero_le _, hv16⟩
    rintro nn s1 h7 L_ le8 ⟨k, u, N, rfl, rfl, rfl, hk, hu⟩;replace hp1 := hp1.mono le8;refine geqB (fun c29 => ?_) (fun c29 => ?_)
    ·
     have hk8 : k < 8 := by omega
     refine qf fi_55_2 aa ?_;intro p33 hp33;refine ql sc_52 aa ?_;rw [show (56 : Int) - 8 * (k : Int) = ((56 - 8 * k : Nat) : Int) by omega];refine shr_nat (n := 56 - 8 * k) (by show _ ≤ 64; omega) ?_;refine conv_u8 it_52_5 ?_;refine qB sl_109 z_5 rfl ag ah aj ?_;intro v38 h10 le9 hv38;refine qp sl_109 sl_109 z_5 aa aa kR (by simp only [List.length_map, List.length_cons, List.length_take, List.length_nil]; omega) ?_;intro v39 N39 hv39;refine ⟨_, kR.symm, ?_⟩;refine sub_i64 ak ?_
     exact back (m := _) ⟨k + 1, v39, N39, (by rw [show (56 : Int) - 8 * ((k + 1 : Nat) : Int) = ((56 - 8 * k : Nat) : Int) - 8 by omega]), rfl, rfl, by omega, by
      rw [be8_take hk8, ← List.cons_append];exact OB.snoc (q := v39) (v' := v39) hv39⟩ af zg zl zn
    ·
     refine DoRet.r2 (.tmp rfl) (.tmp rfl) (qh (List.Sublist.append_left kS _)) zl ?_;have hk2 : k = 8 := by omega
     subst hk2;refine ⟨_, N, rfl, rfl, ?_⟩;have e : valB v = UInt8.ofNat v.kind :: be8 v.bits := by unfold valB; rw [if_neg af, if_pos af]
     rw [e, ← List.take_of_length_le (l := be8 v.bits) (i := 8) (by rw [be8_len]; exact Nat.le_refl _)]; exact hu
   ·
    refine eqlB (fun c41 => ?_) (fun c41 => ?_)
    ·
     refine qf fi_55_3 aa ?_;intro p43 hp43;refine ql sc_9 aa ?_;refine strBytes un_9 un_109 un_5 af ?_;intro v45 h12 le11 hv45;refine qc (wire_bytes hv45 af) ?_;rintro v46 h14 L_ le13 ⟨x, N46, rfl, rfl, hv46⟩;refine DoV.freeze hv46 (by simp only [List.length_map]; unfold textB; rw [List.length_append]; omega) kR ?_;intro h15 le16 hv46;refine qp sl_109 sl_109 z_5 aa aa kR (by simp only [List.length_map, List.length_cons, List.length_nil]; unfold textB; rw [List.length_append]; omega) ?_;intro v51 N51 hv51;refine ⟨_, kR.symm, ?_⟩;refine DoRet.r2 (.tmp rfl) (.tmp rfl) (qh (List.Sublist.append_left kS _)) zl ?_;refine ⟨_, N51, rfl, rfl, ?_⟩;have e : valB v = [UInt8.ofNat v.kind] ++ textB v.text.data.toList := by unfold valB; rw [if_neg af, if_neg af]; rfl
     rw [e]; exact OB.app hv51
    ·
     omega
end Go.Brd
namespace Go.Brd
open Go Go.Brd Go.Proofs
set_option linter.unusedVariables false
theorem sc_109 : scalar Tryz.prog 109 = true := by kernel_rfl
theorem sl_197 : sliceOf Tryz.prog 197 109 1 = true := by kernel_rfl
theorem un_3 : Tryz.prog.underlying 3 = some (.int .i64) := by kernel_rfl
theorem ux_i : ∃ k, Tryz.prog.underlying 3 = some (.int k) := ⟨.i64, un_3⟩
def sumLen (ps : List (Value × List UInt8)) : Nat := (ps.map fun p => p.2.length).sum
theorem sumLen_snoc (l : List (Value × List UInt8)) (x : Value × List UInt8) : sumLen (l ++ [x]) = sumLen l + x.2.length := by simp [sumLen]
theorem sumLen_take (l : List (Value × List UInt8)) (k : Nat) : sumLen (l.take k) ≤ sumLen l := by
 have e : sumLen l = sumLen (l.take k) + sumLen (l.drop k) := by
  conv => lhs; rw [← List.take_append_drop k l]
  simp only [sumLen, List.map_append, List.sum_append]
 omega
def catB (ps : List (Value × List UInt8)) : List UInt8 := (ps.map fun p => p.2).flatten
theorem catB_snoc (l : List (Value × List UInt8)) (x : Value × List UInt8) : catB (l ++ [x]) = catB l ++ x.2 := by simp [catB]
theorem catB_len (l : List (Value × List UInt8)) : (catB l).length = sumLen l := by
 induction l with
 | nil => rfl
 | cons a r ih => simp only [catB, sumLen, List.map_cons, List.flatten_cons, List.length_append, List.sum_cons] at *; omega
theorem grow_nil {c : World} {h : GH} {L : Own} {n : Nat} (hn : n ≤ 536870912) :
 Fun Tryz.prog c 145 #[.slice none 0 0, .int .i64 (n : Int)] h L (fun u _ L' => ∃ N, L' = N ++ L ∧ OB u ([]) N) := by
 refine zA (N := 27) (args := [.slice none 0 0, .int .i64 (n : Int)]) Tryz.func145 ?_;refine lssB (fun c6 => ?_) (fun c6 => ?_)
 ·
  omega
 ·
  refine cap_c sl_109 ?_;refine len_slice sl_109 ?_;refine sub_i64 ak ?_;refine sub_i64 ak ?_;rw [show (n : Int) - (((0 : Nat) : Int) - ((0 : Nat) : Int)) = (n : Int) by omega];refine gtrB (fun c16 => ?_) (fun c16 => ?_)
  ·
   refine cap_c sl_109 ?_;refine sliceNil_hi sl_109 rfl ?_;refine append_zeros sl_109 ux_i (zero1_of zv_5 z_5 si_5 rfl) z_5 rfl (OS.nil _ _) kR ar ?_;intro v22 N22 hv22;refine ⟨_, List.Perm.refl _, ?_⟩;rw [List.nil_append] at hv22;obtain ⟨b22, rest, cap, e22, rfl, hc1, hc2, hc3⟩ := hv22.toRow (by rw [List.length_replicate]; omega);subst e22;refine len_slice sl_109 ?_;refine sliceB_hi (hi := 0) sl_109 rfl (Nat.zero_le _) ?_;refine DoRet.r1 (.tmp rfl) (qh (zv kS)) zl ?_;refine ⟨[(b22, rowO B5 (List.replicate n [.int .u8 0]) rest)], rfl, ?_⟩;refine ⟨by simp, by simp, .inr ⟨b22, (List.replicate n [.int .u8 0]).flatten ++ rest, cap, rfl, rfl, ?_, Nat.zero_le _, hc3⟩⟩;simp only [List.length_append, flatten_length hv22.sizes]; simp at hc1 ⊢; omega
  ·
   refine ze rfl ?_;exact ⟨[], rfl, OS.nil _ _⟩
theorem concat_bytes {c : World} {h : GH} {L : Own} {v : Value} {ps : List (Value × List UInt8)} (hs : RBss h v ps) (hsm : sumLen ps ≤ 536870912) :
 Fun Tryz.prog c 90 #[v] h L (fun u _ L' => ∃ N, L' = N ++ L ∧ OB u (catB ps) N) := by
 have hpl := hs.sl.small; rw [List.length_map] at hpl;refine zA (N := 36) (args := [v]) Tryz.func90 ?_;refine qm sl_197 hs.sl ?_;refine qL (fun s0 nn s' h' L' => ∃ (k : Nat), s' = [(3, .int .i64 (sumLen (ps.take k) : Nat)), (11, .int .i64 k)] ++ qR s0 [0, 9, 10] ∧ nn = ps.length - k ∧ L = L' ∧ k ≤ ps.length) ⟨0, rfl, rfl, rfl, Nat.zero_le _⟩ zg zl zn ?_;rintro nn s1 h1 L_ le2 ⟨k, rfl, rfl, rfl, hk⟩;replace hs := hs.mono le2;refine lssB (fun c12 => ?_) (fun c12 => ?_)
 ·
  have hkl : k < ps.length := by omega
  obtain ⟨x, hx⟩ : ∃ x, ps[k]? = some x := ⟨_, List.getElem?_eq_getElem hkl⟩;have hbx := hs.each x (List.mem_of_getElem? hx);have hsn := sumLen_snoc (ps.take k) x;rw [← take_snoc hx] at hsn;have hst := sumLen_take ps (k + 1);have hsl := hs.sl;refine qi (k := k) sl_197 hsl rfl hx ?_;intro p13 r13 hl13 hp13;refine ql sc_109 aa ?_;refine qm sl_109 hbx ?_;refine add_i64n af ?_;rw [← hsn];refine lssB (fun c20 => ?_) (fun c20 => ?_)
  ·
   omega
  ·
   refine qA ak ?_;exact back (m := _) ⟨k + 1, rfl, rfl, rfl, by omega⟩ af zg zl zn
 ·
  have hk2 : k = ps.length := by omega
  subst hk2;rw [List.take_length];refine qc (grow_nil (n := sumLen ps) hsm) ?_;rintro v24 h4 L_ le3 ⟨N24, rfl, hv24⟩;replace hs := hs.mono le3;refine qm sl_197 hs.sl ?_;refine qL (fun s0 nn s' h' L' => ∃ (j : Nat) (u : Value) (N : Own), s' = [(6, u), (27, .int .i64 j)] ++ qR s0 [25, 26] ∧ nn = ps.length - j ∧ N ++ L = L' ∧ j ≤ ps.length ∧ OB u (catB (ps.take j)) N) ⟨0, _, _, rfl, rfl, rfl, ?_⟩ zg zl zn ?_
  · exact ⟨Nat.zero_le _, hv24⟩
  rintro nn s1 h5 L_ le6 ⟨j, u, N, rfl, rfl, rfl, hj, hu⟩;replace hs := hs.mono le6;refine lssB (fun c28 => ?_) (fun c28 => ?_)
  ·
   have hjl : j < ps.length := by omega
   obtain ⟨x, hx⟩ : ∃ x, ps[j]? = some x := ⟨_, List.getElem?_eq_getElem hjl⟩;have hbx := hs.each x (List.mem_of_getElem? hx);have hsn := sumLen_snoc (ps.take j) x;rw [← take_snoc hx] at hsn;have hst := sumLen_take ps (j + 1);have hcl := catB_len (ps.take j);have hsl := hs.sl;refine qi (k := j) sl_197 hsl rfl hx ?_;intro p29 r29 hl29 hp29;refine ql sc_109 aa ?_;refine qp sl_109 sl_109 z_5 aa hbx kR (by simp only [List.length_map]; omega) ?_;intro v33 N33 hv33;refine ⟨_, kR.symm, ?_⟩;refine qA ak ?_;exact back (m := _) ⟨j + 1, v33, N33, rfl, rfl, rfl, by omega, by rw [take_snoc hx, catB_snoc]; exact OB.app hv33⟩ af zg zl zn
  ·
   refine DoRet.r1 (.tmp rfl) (qh (List.Sublist.append_left kS _)) zl ?_;have hj2 : j = ps.length := by omega
   subst hj2;rw [List.take_length] at hu;exact ⟨N, rfl, hu⟩
end Go.Brd
namespace Go.Brd
open Go Go.Brd Go.Proofs
set_option linter.unusedVariables false
theorem fi_59_0 : fieldIs Tryz.prog 59 0 0 = true := by kernel_rfl
theorem fi_59_1 : fieldIs Tryz.prog 59 1 1 = true := by kernel_rfl
theorem fi_61_0 : fieldIs Tryz.prog 61 0 0 = true := by kernel_rfl
theorem fi_61_1 : fieldIs Tryz.prog 61 1 1 = true := by kernel_rfl
theorem fi_61_2 : fieldIs Tryz.prog 61 2 2 = true := by kernel_rfl
theorem fi_61_3 : fieldIs Tryz.prog 61 3 3 = true := by kernel_rfl
theorem fi_61_4 : fieldIs Tryz.prog 61 4 9 = true := by kernel_rfl
theorem sc_22 : scalar Tryz.prog 22 = true := by kernel_rfl
theorem risB_at {l : List ID} (h : risB l = true) : ∀ {k : Nat} {x y : ID}, l[k]? = some x → l[k+1]? = some y → Lib.compareBytes x y < 0 := by
 intro k x y hx hy;apply Decidable.byContradiction; intro e;rw [risB_false hx hy e] at h; cases h
theorem cmp_flip (x y : List UInt8) : Lib.compareBytes y x = - Lib.compareBytes x y := by
 induction x generalizing y with
 | nil => cases y <;> simp [Lib.compareBytes]
 | cons a x ih =>
  cases y with
  | nil => simp [Lib.compareBytes]
  | cons b y =>
   simp only [Lib.compareBytes];by_cases h1 : a < b
   · have h2 : ¬ b < a := by rw [UInt8.lt_iff_toNat_lt] at *; omega
     simp [h1, h2]
   · by_cases h2 : b < a
     · simp [h1, h2]
     · simp only [h1, h2, if_false]; exact ih y
def opOk (o : Op) : Bool := decide (o.preds.length ≤ 4) && risB o.preds && isG o.author && decide (o.stamp ≤ 1000000000000) && decide (o.e < 500000003 ∧ o.s < 500000003) && actOk o.act
structure OpOk (o : Op) : Prop where
 preds : o.preds.length ≤ 4
 ris : risB o.preds = true
 author : isG o.author = true
 stamp : o.stamp ≤ 1000000000000
 e : o.e < 500000003
 s : o.s < 500000003
 act : actOk o.act = true
theorem opOk_iff {o : Op} : opOk o = true ↔ OpOk o := by
 constructor
 · intro h; simp only [opOk, Bool.and_eq_true, decide_eq_true_eq] at h
   exact ⟨h.1.1.1.1.1, h.1.1.1.1.2, h.1.1.1.2, h.1.1.2, h.1.2.1, h.1.2.2, h.2⟩
 · intro h; simp only [opOk, Bool.and_eq_true, decide_eq_true_eq]
   exact ⟨⟨⟨⟨⟨h.preds, h.ris⟩, h.author⟩, h.stamp⟩, h.e, h.s⟩, h.act⟩
theorem sorted_ids {c : World} {h : GH} {L : Own} {v : Value} {l : List ID} (hs : RIds h v l) (hr : risB l = true) :
 Fun Tryz.prog c 141 #[v, .func (.func 69) #[] #[]] h L (fun u _ L' => u = .bool true ∧ L = L') := by
 have hsm := hs.small; rw [List.length_map] at hsm;refine zA (N := 25) (args := [v, .func (.func 69) #[] #[]]) Tryz.func141 ?_;refine qm sl_22 aa ?_;refine sub_i64 ak ?_;refine qL (fun s0 nn s' h' L' => ∃ (k : Nat), s' = [(5, .int .i64 ((k : Int) - 1))] ++ qR s0 [0, 1] ∧ nn = k * 2 ∧ L = L' ∧ k ≤ l.length) ⟨l.length, rfl, rfl, rfl, Nat.le_refl _⟩ zg zl zn ?_;rintro nn s1 h1 L_ le2 ⟨k, rfl, rfl, rfl, hk⟩;replace hs := hs.mono le2;refine gtrB (fun c10 => ?_) (fun c10 => ?_)
 ·
  have hk2 : 2 ≤ k := by omega
  obtain ⟨x, hx⟩ := qE (l := l) (k := k - 1) af;obtain ⟨y, hy⟩ := qE (l := l) (k := k - 2) af;have hxy := risB_at hr hy (by rw [show k - 2 + 1 = k - 1 by omega]; exact hx);have hfl := cmp_flip y x;refine DoDraw.intro mixed [0, 1, 2, 3, 4, 5, 6, 7, 8, 9, 10, 11] [] ae am ?_;refine qi (k := k - 1) sl_22 aa af hx ?_;intro p16 r16 hl16 hp16;refine qP ag_74 aa aa ?_;refine sub_i64 ak ?_;refine qi (k := k - 2) sl_22 aa af hy ?_;intro p21 r21 hl21 hp21;refine qP ag_74 aa aa ?_;refine qc (digest_cmp hl16 hl21) ?_;rintro v23 h4 L_ le3 ⟨rfl, rfl⟩;refine ⟨am, ?_⟩;refine lssB (fun c24 => ?_) (fun c24 => ?_)
  ·
   omega
  ·
   refine ⟨_, Fr.Sub.refl _, ?_⟩;refine sub_i64 ak ?_;exact back (m := _) ⟨k - 1, (by rw [show ((k - 1 : Nat) : Int) - 1 = (k : Int) - 1 - 1 by omega]), rfl, rfl, by omega⟩ af zg zl zn
 ·
  refine ze rfl ?_;exact ⟨rfl, rfl⟩
theorem compact_ids {c : World} {h : GH} {L : Own} {v : Value} {l : List ID} (hs : RIds h v l) (hr : risB l = true) :
 Fun Tryz.prog c 70 #[v] h L (fun u _ L' => u = v ∧ L = L') := by
 have hsm := hs.small; rw [List.length_map] at hsm;refine zA (N := 61) (args := [v]) Tryz.func70 ?_;refine qm sl_22 aa ?_;refine lssB (fun c8 => ?_) (fun c8 => ?_)
 ·
  refine ze rfl ?_;exact ⟨rfl, rfl⟩
 ·
  refine qL (fun s0 nn s' h' L' => ∃ (k : Nat), s' = [(3, .int .i64 k)] ++ qR s0 [0] ∧ nn = l.length - k ∧ L = L' ∧ 1 ≤ k ∧ k ≤ l.length) ⟨1, rfl, rfl, rfl, ?_⟩ zg zl zn ?_
  · exact ⟨Nat.le_refl _, by omega⟩
  rintro nn s1 h1 L_ le2 ⟨k, rfl, rfl, rfl, hk1, hk⟩;replace hs := hs.mono le2;refine qm sl_22 aa ?_;refine lssB (fun c13 => ?_) (fun c13 => ?_)
  ·
   have hkl : k < l.length := by omega
   obtain ⟨y, hy⟩ := qE (l := l) (k := k) hkl;obtain ⟨x, hx⟩ := qE (l := l) (k := k - 1) af;have hxy := risB_at hr hx (by rw [show k - 1 + 1 = k by omega]; exact hy);refine DoDraw.intro mixed [0, 1, 2, 3, 4, 5, 6, 7, 8, 9] [] ae am ?_;refine qi (k := k) sl_22 aa af hy ?_;intro p18 r18 hl18 hp18;refine qP ag_74 aa aa ?_;refine sub_i64 ak ?_;refine qi (k := k - 1) sl_22 aa af hx ?_;intro p23 r23 hl23 hp23;refine qP ag_74 aa aa ?_;refine eqlI sh_id ia_id ef_id aa aa (fun c25 => ?_) (fun c25 => ?_)
   ·
    subst c25; have := cmp_id_iff.2 (rfl : y = y); omega
   ·
    refine ⟨_, Fr.Sub.refl _, ?_⟩;refine qA ak ?_;exact back (m := _) ⟨k + 1, rfl, rfl, rfl, by omega, by omega⟩ af zg zl zn
  ·
   refine ze rfl ?_;exact ⟨rfl, rfl⟩
theorem keyOk_small {s : ByteArray} (h : keyOk s = true) : s.size ≤ 20 := by
 simp only [keyOk, Bool.and_eq_true, decide_eq_true_eq] at h; exact h.1.2
theorem valOk_small {v : Val} (h : valOk v = true) : v.text.size ≤ 30 := by
 have hk := valOk_kind h;simp only [valOk, Bool.and_eq_true, decide_eq_true_eq] at h;obtain ⟨h1, h2⟩ := h;by_cases h3 : v.kind = 3
 · cases ht : textOk v.text with
   | true => simp only [textOk, Bool.and_eq_true, decide_eq_true_eq] at ht; exact ht.1
   | false => rw [want3F af ht] at h1; rw [h1] at h2; exact absurd rfl h2
 · have e : wantV v = ⟨1, v.num, 0, ⟨#[]⟩⟩ ∨ wantV v = ⟨2, 0, canonF v.bits, ⟨#[]⟩⟩ := by
    rcases hk with hk | hk | hk
    · exact .inl (want1 af)
    · exact .inr (want2 af)
    · exact absurd hk h3
   rcases e with e | e <;> rw [h1, e] <;> exact Nat.zero_le _
theorem actOk_small {a : Act} (h : actOk a = true) : a.key.size ≤ 20 ∧ a.val.text.size ≤ 30 := by
 rw [actOk_def] at h;split at h
 · simp only [decide_eq_true_eq] at h; subst h; exact ⟨Nat.zero_le _, Nat.zero_le _⟩
 · split at h
   · simp only [Bool.and_eq_true, decide_eq_true_eq] at h
     exact ⟨keyOk_small h.1, by rw [h.2]; exact Nat.zero_le _⟩
   · split at h
     · simp only [Bool.and_eq_true] at h; exact ⟨keyOk_small h.1, valOk_small h.2⟩
     · cases h
def opC2 (o : Op) (pv : Value) : List Value := [.int .u32 o.author, pv, .int .u64 o.stamp, .int .u8 o.act.kind, .string o.act.key, .int .u8 o.act.val.kind, .int .i64 o.act.val.num, .int .u64 o.act.val.bits, .string o.act.val.text, .int .u32 o.e, .int .u32 o.s]
theorem opC2_eq (x : Op × Value) : opC x = opC2 x.1 x.2 := rfl
def opV (o : Op) (pv : Value) : Value := .agg (opC2 o pv).toArray
theorem op_check {c : World} {h : GH} {L : Own} {o : Op} {pv : Value} (ho : OpOk o) (hw : OpWF o) (hp : RIds h pv o.preds) :
 Fun Tryz.prog c 88 #[opV o pv] h L (fun u _ L' => u = .int .i64 0 ∧ L = L') := by
 have hsmall := actOk_small ho.act;have k1 := ho.preds;have k2 := ho.stamp;have k3 := ho.e;have k4 := ho.s;have k5 := hw.author;refine zA (N := 47) (args := [.agg (opC2 o pv).toArray]) Tryz.func88 ?_;refine box_at rfl ?_;intro p1 h2 le1 hp1;replace hp := hp.mono le1;refine qf fi_61_1 aa ?_;intro p4 hp4;refine ql sc_22 aa ?_;refine qm sl_22 aa ?_;refine gtrB (fun c7 => ?_) (fun c7 => ?_)
 ·
  exact absurd c7 af
 ·
  refine DoDraw.intro mixed [0, 1, 2, 3, 4, 5, 6, 10, 11, 12, 7, 8, 9, 13, 14, 15] [] ae am ?_;refine qf fi_61_1 aa ?_;intro p9 hp9;refine ql sc_22 aa ?_;refine qc (sorted_ids hp ho.ris) ?_;rintro v11 h4 L_ le3 ⟨rfl, rfl⟩;replace hp := hp.mono le3; replace hp1 := hp1.mono le3;refine ⟨am, ?_⟩;refine not_tt ?_;refine qf fi_61_1 aa ?_;intro p14 hp14;refine ql sc_22 aa ?_;refine qf fi_61_1 aa ?_;intro p19 hp19;refine ql sc_22 aa ?_;refine qm sl_22 aa ?_;refine qc (Fun.frozen ar (clone_id hp ar)) ?_;rintro v16 h6 L_ le5 ⟨rfl, hv16⟩;replace hp1 := hp1.mono le5;refine ⟨am, ?_⟩;refine qc (compact_ids hv16 ho.ris) ?_;rintro v17 h8 L_ le7 ⟨rfl, rfl⟩;replace hp1 := hp1.mono le7; replace hv16 := hv16.mono le7;refine ⟨am, ?_⟩;refine qm sl_22 aa ?_;refine neqB (fun c22 => ?_) (fun c22 => ?_)
  ·
   exact absurd rfl c22
  ·
   refine ⟨_, Fr.Sub.refl _, ?_⟩;refine qf fi_61_0 aa ?_;intro p25 hp25;refine ql sc_53 aa ?_;refine qc (group_is k5) ?_;rintro v27 h10 L_ le9 ⟨rfl, rfl⟩;replace hp1 := hp1.mono le9;rw [ho.author];refine not_tt ?_;refine qf fi_61_2 aa ?_;intro p30 hp30;refine ql sc_52 aa ?_;refine gtrB (fun c32 => ?_) (fun c32 => ?_)
   ·
    omega
   ·
    refine qf fi_61_4 aa ?_;intro p35 hp35;refine qf fi_59_0 aa ?_;intro p36 hp36;refine ql sc_53 aa ?_;refine qf fi_61_4 aa ?_;intro p38 hp38;refine qf fi_59_1 aa ?_;intro p39 hp39;refine ql sc_53 aa ?_;refine max_int ?_;refine geqB (fun c42 => ?_) (fun c42 => ?_)
    ·
     omega
    ·
     refine qf fi_61_3 aa ?_;intro p44 hp44;refine load_aggT ag_57 aa ab ?_;refine qc (op_checkact (a := o.act) hw.act (Nat.lt_of_le_of_lt hsmall.1 ah) (Nat.lt_of_le_of_lt hsmall.2 ah)) ?_;rintro v46 h12 L_ le11 ⟨rfl, rfl⟩;rw [if_pos ho.act];refine ze rfl ?_;exact ⟨rfl, rfl⟩
end Go.Brd
namespace Go.Brd
open Go Go.Brd Go.Proofs
set_option linter.unusedVariables false
theorem sc_3 : scalar Tryz.prog 3 = true := by kernel_rfl
theorem si_3 : sizeIs Tryz.prog 3 1 = true := by kernel_rfl
theorem si_74 : sizeIs Tryz.prog 74 32 = true := by kernel_rfl
theorem zc_3 : zeroC Tryz.prog 3 = some ([.int .i64 0]) := by kernel_rfl
theorem zc_74 : zeroC Tryz.prog 74 = some (List.replicate 32 (.int .u8 0)) := by kernel_rfl
theorem GH.le.mono {h h' h2 : GH} (a : GH.le h h') (b : GH.le h' h2) : GH.le h h2 := GH.le_trans a b
theorem rising1 {c : World} {h : GH} {L : Own} {v q : Value} {l : List ID} {x : ID} {b k : Nat} (hq : At h q [v]) (hs : RIds h v l) (hr : risB l = true) (hk : k < l.length) :
 Fun Tryz.prog c 192 #[idV x, .pointer (some ⟨b, 0, none⟩), q] h ((b, .cells [.int .i64 (k : Int)].toArray 3 (0, 0)) :: L) (fun u _ L' => u = .bool false ∧ (b, .cells [.int .i64 ((k : Int) + 1)].toArray 3 (0, 0)) :: L = L') := by
 have hsm := hs.small; rw [List.length_map] at hsm;refine zA (N := 24) (args := [idV x, .pointer (some ⟨b, 0, none⟩), q]) Tryz.func192 ?_;refine box_at rfl ?_;intro p3 h2 le1 hp3;replace hq := hq.mono le1; replace hs := hs.mono le1;refine qO sc_3 kH an ?_;refine qA ak ?_;refine kB si_3 ac ai ad kR ab rfl kR.symm ?_;refine DoDraw.intro mixed [0, 1, 2, 3, 4, 5, 6, 7, 8, 9, 10, 11, 12, 13, 14, 15, 16, 17] [_] ae (mem1 kH) ?_;refine qO sc_3 kH an ?_;refine ql sc_22 aa ?_;refine qm sl_22 aa ?_;refine lssB (fun c10 => ?_) (fun c10 => ?_)
 ·
  obtain ⟨y, hy⟩ := qE (l := l) (k := k) af;obtain ⟨z, hz⟩ := qE (l := l) (k := k + 1) af;refine ql sc_22 aa ?_;refine qO sc_3 kH an ?_;refine sub_i64 ak ?_;refine qi (k := k) sl_22 aa af hy ?_;intro p15 r15 hl15 hp15;refine qP ag_74 aa aa ?_;refine ql sc_22 aa ?_;refine qO sc_3 kH an ?_;refine qi (k := k + 1) sl_22 aa af hz ?_;intro p19 r19 hl19 hp19;refine qP ag_74 aa aa ?_;refine qc (digest_cmp hl15 hl19) ?_;rintro v21 h4 L_ le3 ⟨rfl, rfl⟩;refine ⟨(mem1 kH), ?_⟩;refine geqB (fun c22 => ?_) (fun c22 => ?_)
  ·
   have := risB_at hr hy hz; omega
  ·
   refine ⟨_, Fr.Sub.refl _, ?_⟩;refine DoRet.r1 (.tmp rfl) (qh (zv kS)) zl ?_;exact ⟨rfl, rfl⟩
 ·
  refine ⟨_, Fr.Sub.refl _, ?_⟩;refine DoRet.r1 (.tmp rfl) (qh (zv kS)) zl ?_;exact ⟨rfl, rfl⟩
theorem indexfunc_none {c : World} {h : GH} {L : Own} {v : Value} {l : List ID} {g : Nat} {caps : List Value} {O : Nat → Own} (hs : RIds h v l) (h0 : O 0 = L) (hg : ∀ (k : Nat) (x : ID) (h1 : GH), GH.le h h1 → l[k]? = some x → Fun Tryz.prog c g ([idV x] ++ caps).toArray h1 (O k) (fun u _ L' => u = .bool false ∧ O (k + 1) = L')) :
 Fun Tryz.prog c 109 #[v, .func (.func g) #[] caps.toArray] h L (fun u _ L' => u = .int .i64 (-1) ∧ O l.length = L') := by
 have hsm := hs.small; rw [List.length_map] at hsm;subst h0;refine zA (N := 19) (args := [v, .func (.func g) #[] caps.toArray]) Tryz.func109 ?_;refine qm sl_22 aa ?_;refine qL (fun s0 nn s' h' L' => ∃ (k : Nat), s' = [(8, .int .i64 k)] ++ qR s0 [0, 1, 7] ∧ nn = l.length - k ∧ O k = L' ∧ GH.le h h' ∧ k ≤ l.length) ⟨0, rfl, rfl, rfl, ?_⟩ zg zl zn ?_
 · exact ⟨GH.le_refl _, Nat.zero_le _⟩
 rintro nn s1 h1 L_ le2 ⟨k, rfl, rfl, rfl, hle0, hk⟩;replace hs := hs.mono le2;refine lssB (fun c9 => ?_) (fun c9 => ?_)
 ·
  have hkl : k < l.length := by omega
  obtain ⟨x, hx⟩ := qE hkl;refine qi (k := _) sl_22 aa rfl aa ?_;intro p14 r14 hl14 hp14;refine qP ag_74 aa aa ?_;refine DoCall.clo (hg k x _ aa hx) ?_;rintro v16 h4 L_ le3 ⟨rfl, rfl⟩;replace hle0 := hle0.mono le3;refine qA ak ?_;exact back (m := _) ⟨k + 1, rfl, rfl, rfl, by assumption, by omega⟩ af zg zl zn
 ·
  refine ze rfl ?_;have hk2 : k = l.length := by omega
  subst hk2;exact ⟨rfl, rfl⟩
theorem containsfunc_none {c : World} {h : GH} {L : Own} {v : Value} {l : List ID} {g : Nat} {caps : List Value} {O : Nat → Own} (hs : RIds h v l) (h0 : O 0 = L) (hg : ∀ (k : Nat) (x : ID) (h1 : GH), GH.le h h1 → l[k]? = some x → Fun Tryz.prog c g ([idV x] ++ caps).toArray h1 (O k) (fun u _ L' => u = .bool false ∧ O (k + 1) = L')) :
 Fun Tryz.prog c 191 #[v, .func (.func g) #[] caps.toArray] h L (fun u _ L' => u = .bool false ∧ O l.length = L') := by
 refine zA (N := 9) (args := [v, .func (.func g) #[] caps.toArray]) Tryz.func191 ?_;refine qc (indexfunc_none hs h0 hg) ?_;rintro v7 h2 L_ le1 ⟨rfl, rfl⟩;refine geqB (fun c8 => ?_) (fun c8 => ?_)
 ·
  omega
 ·
  refine ze rfl ?_;exact ⟨rfl, rfl⟩
theorem wire_rising {c : World} {h : GH} {L : Own} {v : Value} {l : List ID} (hs : RIds h v l) (hr : risB l = true) :
 Fun Tryz.prog c 144 #[v] h L (fun u _ L' => u = .bool true ∧ L = L') := by
 refine zA (N := 8) (args := [v]) Tryz.func144 ?_;refine box_at (by first | exact Sl.cells aa | rfl) ?_;intro p1 h2 le1 hp1;replace hs := hs.mono le1;refine qa zc_3 ?_;intro b3;refine kB si_3 ac ai ad kR ab rfl kR.symm ?_;refine ql sc_22 aa ?_;refine qc (containsfunc_none (caps := [.pointer (some ⟨b3, 0, none⟩), p1]) (O := fun k => (b3, .cells [.int .i64 (k : Int)].toArray 3 (0, 0)) :: L) hs rfl (fun k x h1 hle hx => rising1 (hp1.mono hle) (hs.mono hle) hr (List.getElem?_eq_some_iff.1 hx).1)) ?_;rintro v6 h4 L_ le3 ⟨rfl, rfl⟩;refine not_ff ?_;refine DoRet.r1 (.tmp rfl) (qh (zu kS)) zl ?_;exact ⟨rfl, rfl⟩
theorem wire_ids {c : World} {h : GH} {L : Own} {v : Value} {l : List ID} (hs : RIds h v l) (hr : risB l = true) (hsm : l.length ≤ 60) :
 Fun Tryz.prog c 89 #[v] h L (fun u _ L' => ∃ x N, L' = N ++ L ∧ u = .tuple #[x, .int .i64 0] ∧ OB x (idsB l) N) := by
 have h32 := hs.len32;have hnl := numB_len l.length;refine zA (N := 28) (args := [v]) Tryz.func89 ?_;refine qm sl_22 aa ?_;refine gtrB (fun c9 => ?_) (fun c9 => ?_)
 ·
  omega
 ·
  refine qc (wire_rising hs hr) ?_;rintro v11 h2 L_ le1 ⟨rfl, rfl⟩;replace hs := hs.mono le1;refine not_tt ?_;refine qm sl_22 aa ?_;refine conv_u64 it_3_52 af ?_;refine qc (wire_number af) ?_;rintro v16 h4 L_ le3 ⟨N16, rfl, hv16⟩;replace hs := hs.mono le3;refine qm sl_22 aa ?_;refine qL (fun s0 nn s' h' L' => ∃ (k : Nat) (u : Value) (N : Own), s' = [(4, u), (19, .int .i64 k)] ++ qR s0 [17, 18] ∧ nn = l.length - k ∧ N ++ L = L' ∧ k ≤ l.length ∧ OB u (numB l.length ++ (l.take k).flatten) N) ⟨0, _, _, rfl, rfl, rfl, ?_⟩ zg zl zn ?_
  · exact ⟨Nat.zero_le _, by simpa using hv16⟩
  rintro nn s1 h5 L_ le6 ⟨k, u, N, rfl, rfl, rfl, hk, hu⟩;replace hs := hs.mono le6;refine lssB (fun c20 => ?_) (fun c20 => ?_)
  ·
   have hkl : k < l.length := by omega
   obtain ⟨x, hx⟩ := qE hkl;have hx32 := h32 x (List.mem_of_getElem? hx);have hfl := flat_len h32 k;refine qi (k := _) sl_22 aa rfl aa ?_;intro p21 r21 hl21 hp21;refine qP ag_74 aa aa ?_;refine qa zc_74 ?_;intro b6;refine kB si_74 ac (by rw [idC_length]; exact hx32) ad kR am (over_all (by simp [idC_length, hx32])) kR.symm ?_;refine slice_ptr ar_74 ?_;refine DoV.freezeBox kR ?_;intro h7 le8 hfz;have hb6 := Sl.ofBox hfz hx32;refine qp sl_109 sl_109 z_5 aa hb6 kR (by simp only [List.length_map, List.length_append]; omega) ?_;intro v25 N25 hv25;refine ⟨_, kR.symm, ?_⟩;refine qA ak ?_
   exact back (m := _) ⟨k + 1, v25, N25, rfl, rfl, rfl, by omega, by
    rw [flat_snoc hx, ← List.append_assoc]; exact OB.app hv25⟩ af zg zl zn
  ·
   refine DoRet.r2 (.tmp rfl) (.tmp rfl) (qh (List.Sublist.append_left kS _)) zl ?_;have hk2 : k = l.length := by omega
   subst hk2;rw [List.take_length] at hu;exact ⟨_, N, rfl, rfl, hu⟩
end Go.Brd
namespace Go.Brd
open Go Go.Brd Go.Proofs
set_option linter.unusedVariables false
theorem ag_61 : aggN Tryz.prog 61 11 = true := by kernel_rfl
theorem pl_59 : placesOf Tryz.prog 59 = some [(0, 1), (1, 1)] := by kernel_rfl
theorem pl_f88 : plain Tryz.prog 88 = true := by kernel_rfl
theorem si_59 : sizeIs Tryz.prog 59 2 = true := by kernel_rfl
theorem zc_109 : zeroC Tryz.prog 109 = some ([.slice none 0 0]) := by kernel_rfl
theorem zc_59 : zeroC Tryz.prog 59 = some ([.int .u32 0, .int .u32 0]) := by kernel_rfl
def unsig (o : Op) : Op := { o with e := 0, s := 0 }
def msgB (o : Op) : List UInt8 := [UInt8.ofNat 111] ++ numB o.author ++ idsB o.preds ++ numB o.stamp ++ [UInt8.ofNat o.act.kind] ++ (if o.act.kind = 1 then [] else textB o.act.key.data.toList ++ (if o.act.kind = 4 then valB o.act.val else []))
theorem idsB_len {l : List ID} (h : ∀ x ∈ l, x.length = 32) : (idsB l).length ≤ 9 + l.length * 32 := by
 have h1 := flat_len h l.length;rw [List.take_length] at h1;have h2 := numB_len l.length;unfold idsB; rw [List.length_append]; omega
theorem textB_len (s : List UInt8) : (textB s).length ≤ 9 + s.length := by
 have := numB_len s.length;unfold textB; rw [List.length_append]; omega
theorem valB_len {v : Val} (h : v.text.size ≤ 30) : (valB v).length ≤ 40 := by
 unfold valB;simp only [List.length_cons];split
 · have := numB_len (zig v.num); omega
 · split
   · rw [be8_len]; omega
   · have := textB_len v.text.data.toList
     have e : v.text.data.toList.length = v.text.size := by simp
     omega
theorem act4 {a : Act} (h : actOk a = true) (hk : a.kind = 4) : valOk a.val = true := by
 rw [actOk_def, if_neg af, if_neg af, if_pos hk] at h;simp only [Bool.and_eq_true] at h; exact h.2
def opCU (o : Op) (pv : Value) : List Value := [.int .u32 o.author, pv, .int .u64 o.stamp, .int .u8 o.act.kind, .string o.act.key, .int .u8 o.act.val.kind, .int .i64 o.act.val.num, .int .u64 o.act.val.bits, .string o.act.val.text, .int .u32 0, .int .u32 0]
def catM (o : Op) : List UInt8 := [UInt8.ofNat 111] ++ (numB o.author ++ (idsB o.preds ++ (numB o.stamp ++ ([UInt8.ofNat o.act.kind] ++ []))))
theorem catM_len (o : Op) : (catM o).length = 2 + (numB o.author).length + (idsB o.preds).length + (numB o.stamp).length := by simp [catM]; omega
theorem OpWF.unsig {o : Op} (h : OpWF o) : OpWF (unsig o) := ⟨h.author, h.stamp, h.act, show (0 : Nat) < 4294967296 by decide, show (0 : Nat) < 4294967296 by decide⟩
theorem OpOk.unsig {o : Op} (h : OpOk o) : OpOk (unsig o) := ⟨h.preds, h.ris, h.author, h.stamp, show (0 : Nat) < 500000003 by decide, show (0 : Nat) < 500000003 by decide, h.act⟩
theorem op_message {c : World} {h : GH} {L : Own} {o : Op} {pv : Value} (ho : OpOk (unsig o)) (hw : OpWF o) (hp : RIds h pv o.preds) :
 Fun Tryz.prog c 53 #[opV o pv] h L (fun u _ L' => ∃ x N, L' = N ++ L ∧ u = .tuple #[x, .int .i64 0] ∧ OB x (msgB o) N) := by
 have hsmall := actOk_small (a := o.act) ho.act;have k1 : o.preds.length ≤ 4 := ho.preds;have k2 : o.stamp ≤ 1000000000000 := ho.stamp;have k5 := hw.author;have h32 := hp.len32;have kz1 := numB_len o.author;have kz2 := numB_len o.stamp;have kz3 := idsB_len h32;have kz4 := textB_len o.act.key.data.toList;have kse : o.act.key.data.toList.length = o.act.key.size := by simp
 have kcat := catM_len o;have kz5 := valB_len (v := o.act.val) hsmall.2;refine zA (N := 71) (args := [.agg (opC2 o pv).toArray]) Tryz.func53 ?_;refine box_own rfl ?_;intro b1;refine build_struct zc_59 pl_59 Parts.nil rfl ?_;refine qw fi_61_4 ?_;refine kB si_59 ac ai ad kR ab rfl kR.symm ?_;refine qx ag_61 kH ab an ?_;refine DoCall.freezeBox pl_f88 kR ?_;intro h1 le2 hfz;replace hp := hp.mono le2;have hp1 := At.frozen (l := opCU o pv) hfz;refine qc (op_check (o := unsig o) ho hw.unsig hp) ?_;rintro v15 h4 L_ le3 ⟨rfl, rfl⟩;replace hp := hp.mono le3; replace hp1 := hp1.mono le3;refine neqB (fun c17 => ?_) (fun c17 => ?_)
 ·
  exact absurd rfl c17
 ·
  refine qf fi_61_1 aa ?_;intro p20 hp20;refine ql sc_22 aa ?_;refine qc (wire_ids hp ho.ris af) ?_;rintro v22 h6 L_ le5 ⟨x22, N22, rfl, rfl, hv22⟩;replace hp1 := hp1.mono le5;refine DoDraw.cut (fun s0 s' h' L' => ∃ (v : Value) (N : Own), s' = [(7, v)] ++ qR s0 [1] ∧ N ++ L = L' ∧ OB v (catM o) N) ?_ ?_
  ·
   refine DoDraw.intros mixed [1, 2, 3, 5, 6, 7, 9, 10, 11, 0, 4, 8, 12, 13, 14, 15] [[1, 2, 3, 5, 6, 7, 9, 10, 11, 0, 4, 12, 8, 13, 14, 15], [1, 2, 3, 5, 6, 7, 9, 10, 11, 0, 12, 4, 8, 13, 14, 15], [1, 2, 3, 5, 6, 7, 9, 10, 11, 4, 0, 8, 12, 13, 14, 15], [1, 2, 3, 5, 6, 7, 9, 10, 11, 4, 0, 12, 8, 13, 14, 15], [1, 2, 3, 5, 6, 7, 9, 10, 11, 4, 8, 0, 12, 13, 14, 15], [1, 2, 3, 5, 6, 7, 9, 10, 11, 4, 8, 12, 0, 13, 14, 15], [1, 2, 3, 5, 6, 7, 9, 10, 11, 4, 12, 0, 8, 13, 14, 15], [1, 2, 3, 5, 6, 7, 9, 10, 11, 4, 12, 8, 0, 13, 14, 15], [1, 2, 3, 5, 6, 7, 9, 10, 11, 12, 0, 4, 8, 13, 14, 15], [1, 2, 3, 5, 6, 7, 9, 10, 11, 12, 4, 0, 8, 13, 14, 15], [1, 2, 3, 5, 6, 7, 9, 10, 11, 12, 4, 8, 0, 13, 14, 15]] [] ae am (fcons ?_ (fcons ?_ (fcons ?_ (fcons ?_ (fcons ?_ (fcons ?_ (fcons ?_ (fcons ?_ (fcons ?_ (fcons ?_ (fcons ?_ (fcons ?_ fnil))))))))))))
   ·
    refine qf fi_61_0 aa ?_;intro p26 hp26;refine ql sc_53 aa ?_;refine conv_u64 it_53_52 af ?_;refine qf fi_61_2 aa ?_;intro p31 hp31;refine ql sc_52 aa ?_;refine qf fi_61_3 aa ?_;intro p34 hp34;refine qf fi_57_0 aa ?_;intro p35 hp35;refine ql sc_5 aa ?_;refine DoV.freeze hv22 al kR ?_;intro h7 le8 hv22;refine qB sl_109 z_5 rfl ag ah aj ?_;intro v25 h10 le9 hv25;replace hv22 := hv22.mono le9;refine ⟨am, ?_⟩;refine qc (Fun.frozen aq (wire_number af)) ?_;rintro v29 h12 L_ le11 ⟨rfl, hv29⟩;replace hv22 := hv22.mono le11; replace hv25 := hv25.mono le11;refine ⟨am, ?_⟩;refine qc (Fun.frozen aq (wire_number af)) ?_;rintro v33 h14 L_ le13 ⟨rfl, hv33⟩;replace hv22 := hv22.mono le13; replace hv25 := hv25.mono le13; replace hv29 := hv29.mono le13;refine ⟨am, ?_⟩;refine qB sl_109 z_5 rfl ag ah aj ?_;intro v37 h16 le15 hv37;replace hv22 := hv22.mono le15; replace hv25 := hv25.mono le15; replace hv29 := hv29.mono le15; replace hv33 := hv33.mono le15;refine ⟨am, ?_⟩;refine buildSliceN (ls := [[_], [_], [_], [_], [_]]) sl_197 zc_109 (qy ac (qy ac (qy ac (qy ac (qy ac Parts.nil))))) rfl rfl (all5 rfl rfl rfl rfl rfl) (all5 ad ad ad ad ad) ah ah ?_;intro v38 h18 le17 hv38;replace hv22 := hv22.mono le17; replace hv25 := hv25.mono le17; replace hv29 := hv29.mono le17; replace hv33 := hv33.mono le17; replace hv37 := hv37.mono le17;refine ⟨am, ?_⟩;refine qc (concat_bytes (ps := [(v25, [UInt8.ofNat 111]), (v29, numB o.author), (x22, idsB o.preds), (v33, numB o.stamp), (v37, [UInt8.ofNat o.act.kind])]) ⟨hv38, all5 (RBytes.one (b := 111) ah hv25) hv29 hv22 hv33 (RBytes.one hw.act.kind hv37)⟩ (by simp [sumLen]; omega)) ?_;rintro v39 h20 L_ le19 ⟨N39, rfl, hv39⟩;refine ⟨am, ?_⟩;exact ⟨_, zn, v39, N39, rfl, rfl, hv39⟩
   ·
    refine qf fi_61_0 aa ?_;intro p26 hp26;refine ql sc_53 aa ?_;refine conv_u64 it_53_52 af ?_;refine qf fi_61_2 aa ?_;intro p31 hp31;refine ql sc_52 aa ?_;refine qf fi_61_3 aa ?_;intro p34 hp34;refine qf fi_57_0 aa ?_;intro p35 hp35;refine ql sc_5 aa ?_;refine DoV.freeze hv22 al kR ?_;intro h21 le22 hv22;refine qB sl_109 z_5 rfl ag ah aj ?_;intro v25 h24 le23 hv25;replace hv22 := hv22.mono le23;refine ⟨am, ?_⟩;refine qc (Fun.frozen aq (wire_number af)) ?_;rintro v29 h26 L_ le25 ⟨rfl, hv29⟩;replace hv22 := hv22.mono le25; replace hv25 := hv25.mono le25;refine ⟨am, ?_⟩;refine qB sl_109 z_5 rfl ag ah aj ?_;intro v37 h28 le27 hv37;replace hv22 := hv22.mono le27; replace hv25 := hv25.mono le27; replace hv29 := hv29.mono le27;refine ⟨am, ?_⟩;refine qc (Fun.frozen aq (wire_number af)) ?_;rintro v33 h30 L_ le29 ⟨rfl, hv33⟩;replace hv22 := hv22.mono le29; replace hv25 := hv25.mono le29; replace hv29 := hv29.mono le29; replace hv37 := hv37.mono le29;refine ⟨am, ?_⟩;refine buildSliceN (ls := [[_], [_], [_], [_], [_]]) sl_197 zc_109 (qy ac (qy ac (qy ac (qy ac (qy ac Parts.nil))))) rfl rfl (all5 rfl rfl rfl rfl rfl) (all5 ad ad ad ad ad) ah ah ?_;intro v38 h32 le31 hv38;replace hv22 := hv22.mono le31; replace hv25 := hv25.mono le31; replace hv29 := hv29.mono le31; replace hv37 := hv37.mono le31; replace hv33 := hv33.mono le31;refine ⟨am, ?_⟩;refine qc (concat_bytes (ps := [(v25, [UInt8.ofNat 111]), (v29, numB o.author), (x22, idsB o.preds), (v33, numB o.stamp), (v37, [UInt8.ofNat o.act.kind])]) ⟨hv38, all5 (RBytes.one (b := 111) ah hv25) hv29 hv22 hv33 (RBytes.one hw.act.kind hv37)⟩ (by simp [sumLen]; omega)) ?_;rintro v39 h34 L_ le33 ⟨N39, rfl, hv39⟩;refine ⟨am, ?_⟩;exact ⟨_, zn, v39, N39, rfl, rfl, hv39⟩
   ·
    refine qf fi_61_0 aa ?_;intro p26 hp26;refine ql sc_53 aa ?_;refine conv_u64 it_53_52 af ?_;refine qf fi_61_2 aa ?_;intro p31 hp31;refine ql sc_52 aa ?_;refine qf fi_61_3 aa ?_;intro p34 hp34;refine qf fi_57_0 aa ?_;intro p35 hp35;refine ql sc_5 aa ?_;refine DoV.freeze hv22 al kR ?_;intro h35 le36 hv22;refine qB sl_109 z_5 rfl ag ah aj ?_;intro v25 h38 le37 hv25;replace hv22 := hv22.mono le37;refine ⟨am, ?_⟩;refine qB sl_109 z_5 rfl ag ah aj ?_;intro v37 h40 le39 hv37;replace hv22 := hv22.mono le39; replace hv25 := hv25.mono le39;refine ⟨am, ?_⟩;refine qc (Fun.frozen aq (wire_number af)) ?_;rintro v29 h42 L_ le41 ⟨rfl, hv29⟩;replace hv22 := hv22.mono le41; replace hv25 := hv25.mono le41; replace hv37 := hv37.mono le41;refine ⟨am, ?_⟩;refine qc (Fun.frozen aq (wire_number af)) ?_;rintro v33 h44 L_ le43 ⟨rfl, hv33⟩;replace hv22 := hv22.mono le43; replace hv25 := hv25.mono le43; replace hv37 := hv37.mono le43; replace hv29 := hv29.mono le43;refine ⟨am, ?_⟩;refine buildSliceN (ls := [[_], [_], [_], [_], [_]]) sl_197 zc_109 (qy ac (qy ac (qy ac (qy ac (qy ac Parts.nil))))) rfl rfl (all5 rfl rfl rfl rfl rfl) (all5 ad ad ad ad ad) ah ah ?_;intro v38 h46 le45 hv38;replace hv22 := hv22.mono le45; replace hv25 := hv25.mono le45; replace hv37 := hv37.mono le45; replace hv29 := hv29.mono le45; replace hv33 := hv33.mono le45;refine ⟨am, ?_⟩;refine qc (concat_bytes (ps := [(v25, [UInt8.ofNat 111]), (v29, numB o.author), (x22, idsB o.preds), (v33, numB o.stamp), (v37, [UInt8.ofNat o.act.kind])]) ⟨hv38, all5 (RBytes.one (b := 111) ah hv25) hv29 hv22 hv33 (RBytes.one hw.act.kind hv37)⟩ (by simp [sumLen]; omega)) ?_;rintro v39 h48 L_ le47 ⟨N39, rfl, hv39⟩;refine ⟨am, ?_⟩;exact ⟨_, zn, v39, N39, rfl, rfl, hv39⟩
   ·
    refine qf fi_61_0 aa ?_;intro p26 hp26;refine ql sc_53 aa ?_;refine conv_u64 it_53_52 af ?_;refine qf fi_61_2 aa ?_;intro p31 hp31;refine ql sc_52 aa ?_;refine qf fi_61_3 aa ?_;intro p34 hp34;refine qf fi_57_0 aa ?_;intro p35 hp35;refine ql sc_5 aa ?_;refine qc (Fun.frozen aq (wire_number af)) ?_;rintro v29 h50 L_ le49 ⟨rfl, hv29⟩;refine ⟨am, ?_⟩;refine DoV.freeze hv22 al kR ?_;intro h51 le52 hv22;replace hv29 := hv29.mono le52;refine qB sl_109 z_5 rfl ag ah aj ?_;intro v25 h54 le53 hv25;replace hv29 := hv29.mono le53; replace hv22 := hv22.mono le53;refine ⟨am, ?_⟩;refine qc (Fun.frozen aq (wire_number af)) ?_;rintro v33 h56 L_ le55 ⟨rfl, hv33⟩;replace hv29 := hv29.mono le55; replace hv22 := hv22.mono le55; replace hv25 := hv25.mono le55;refine ⟨am, ?_⟩;refine qB sl_109 z_5 rfl ag ah aj ?_;intro v37 h58 le57 hv37;replace hv29 := hv29.mono le57; replace hv22 := hv22.mono le57; replace hv25 := hv25.mono le57; replace hv33 := hv33.mono le57;refine ⟨am, ?_⟩;refine buildSliceN (ls := [[_], [_], [_], [_], [_]]) sl_197 zc_109 (qy ac (qy ac (qy ac (qy ac (qy ac Parts.nil))))) rfl rfl (all5 rfl rfl rfl rfl rfl) (all5 ad ad ad ad ad) ah ah ?_;intro v38 h60 le59 hv38;replace hv29 := hv29.mono le59; replace hv22 := hv22.mono le59; replace hv25 := hv25.mono le59; replace hv33 := hv33.mono le59; replace hv37 := hv37.mono le59;refine ⟨am, ?_⟩;refine qc (concat_bytes (ps := [(v25, [UInt8.ofNat 111]), (v29, numB o.author), (x22, idsB o.preds), (v33, numB o.stamp), (v37, [UInt8.ofNat o.act.kind])]) ⟨hv38, all5 (RBytes.one (b := 111) ah hv25) hv29 hv22 hv33 (RBytes.one hw.act.kind hv37)⟩ (by simp [sumLen]; omega)) ?_;rintro v39 h62 L_ le61 ⟨N39, rfl, hv39⟩;refine ⟨am, ?_⟩;exact ⟨_, zn, v39, N39, rfl, rfl, hv39⟩
   ·
    refine qf fi_61_0 aa ?_;intro p26 hp26;refine ql sc_53 aa ?_;refine conv_u64 it_53_52 af ?_;refine qf fi_61_2 aa ?_;intro p31 hp31;refine ql sc_52 aa ?_;refine qf fi_61_3 aa ?_;intro p34 hp34;refine qf fi_57_0 aa ?_;intro p35 hp35;refine ql sc_5 aa ?_;refine qc (Fun.frozen aq (wire_number af)) ?_;rintro v29 h64 L_ le63 ⟨rfl, hv29⟩;refine ⟨am, ?_⟩;refine DoV.freeze hv22 al kR ?_;intro h65 le66 hv22;replace hv29 := hv29.mono le66;refine qB sl_109 z_5 rfl ag ah aj ?_;intro v25 h68 le67 hv25;replace hv29 := hv29.mono le67; replace hv22 := hv22.mono le67;refine ⟨am, ?_⟩;refine qB sl_109 z_5 rfl ag ah aj ?_;intro v37 h70 le69 hv37;replace hv29 := hv29.mono le69; replace hv22 := hv22.mono le69; replace hv25 := hv25.mono le69;refine ⟨am, ?_⟩;refine qc (Fun.frozen aq (wire_number af)) ?_;rintro v33 h72 L_ le71 ⟨rfl, hv33⟩;replace hv29 := hv29.mono le71; replace hv22 := hv22.mono le71; replace hv25 := hv25.mono le71; replace hv37 := hv37.mono le71;refine ⟨am, ?_⟩;refine buildSliceN (ls := [[_], [_], [_], [_], [_]]) sl_197 zc_109 (qy ac (qy ac (qy ac (qy ac (qy ac Parts.nil))))) rfl rfl (all5 rfl rfl rfl rfl rfl) (all5 ad ad ad ad ad) ah ah ?_;intro v38 h74 le73 hv38;replace hv29 := hv29.mono le73; replace hv22 := hv22.mono le73; replace hv25 := hv25.mono le73; replace hv37 := hv37.mono le73; replace hv33 := hv33.mono le73;refine ⟨am, ?_⟩;refine qc (concat_bytes (ps := [(v25, [UInt8.ofNat 111]), (v29, numB o.author), (x22, idsB o.preds), (v33, numB o.stamp), (v37, [UInt8.ofNat o.act.kind])]) ⟨hv38, all5 (RBytes.one (b := 111) ah hv25) hv29 hv22 hv33 (RBytes.one hw.act.kind hv37)⟩ (by simp [sumLen]; omega)) ?_;rintro v39 h76 L_ le75 ⟨N39, rfl, hv39⟩;refine ⟨am, ?_⟩;exact ⟨_, zn, v39, N39, rfl, rfl, hv39⟩
   ·
    refine qf fi_61_0 aa ?_;intro p26 hp26;refine ql sc_53 aa ?_;refine conv_u64 it_53_52 af ?_;refine qf fi_61_2 aa ?_;intro p31 hp31;refine ql sc_52 aa ?_;refine qf fi_61_3 aa ?_;intro p34 hp34;refine qf fi_57_0 aa ?_;intro p35 hp35;refine ql sc_5 aa ?_;refine qc (Fun.frozen aq (wire_number af)) ?_;rintro v29 h78 L_ le77 ⟨rfl, hv29⟩;refine ⟨am, ?_⟩;refine qc (Fun.frozen aq (wire_number af)) ?_;rintro v33 h80 L_ le79 ⟨rfl, hv33⟩;replace hv29 := hv29.mono le79;refine ⟨am, ?_⟩;refine DoV.freeze hv22 al kR ?_;intro h81 le82 hv22;replace hv29 := hv29.mono le82; replace hv33 := hv33.mono le82;refine qB sl_109 z_5 rfl ag ah aj ?_;intro v25 h84 le83 hv25;replace hv29 := hv29.mono le83; replace hv33 := hv33.mono le83; replace hv22 := hv22.mono le83;refine ⟨am, ?_⟩;refine qB sl_109 z_5 rfl ag ah aj ?_;intro v37 h86 le85 hv37;replace hv29 := hv29.mono le85; replace hv33 := hv33.mono le85; replace hv22 := hv22.mono le85; replace hv25 := hv25.mono le85;refine ⟨am, ?_⟩;refine buildSliceN (ls := [[_], [_], [_], [_], [_]]) sl_197 zc_109 (qy ac (qy ac (qy ac (qy ac (qy ac Parts.nil))))) rfl rfl (all5 rfl rfl rfl rfl rfl) (all5 ad ad ad ad ad) ah ah ?_;intro v38 h88 le87 hv38;replace hv29 := hv29.mono le87; replace hv33 := hv33.mono le87; replace hv22 := hv22.mono le87; replace hv25 := hv25.mono le87; replace hv37 := hv37.mono le87;refine ⟨am, ?_⟩;refine qc (concat_bytes (ps := [(v25, [UInt8.ofNat 111]), (v29, numB o.author), (x22, idsB o.preds), (v33, numB o.stamp), (v37, [UInt8.ofNat o.act.kind])]) ⟨hv38, all5 (RBytes.one (b := 111) ah hv25) hv29 hv22 hv33 (RBytes.one hw.act.kind hv37)⟩ (by simp [sumLen]; omega)) ?_;rintro v39 h90 L_ le89 ⟨N39, rfl, hv39⟩;refine ⟨am, ?_⟩;exact ⟨_, zn, v39, N39, rfl, rfl, hv39⟩
   ·
    refine qf fi_61_0 aa ?_;intro p26 hp26;refine ql sc_53 aa ?_;refine conv_u64 it_53_52 af ?_;refine qf fi_61_2 aa ?_;intro p31 hp31;refine ql sc_52 aa ?_;refine qf fi_61_3 aa ?_;intro p34 hp34;refine qf fi_57_0 aa ?_;intro p35 hp35;refine ql sc_5 aa ?_;refine qc (Fun.frozen aq (wire_number af)) ?_;rintro v29 h92 L_ le91 ⟨rfl, hv29⟩;refine ⟨am, ?_⟩;refine qc (Fun.frozen aq (wire_number af)) ?_;rintro v33 h94 L_ le93 ⟨rfl, hv33⟩;replace hv29 := hv29.mono le93;refine ⟨am, ?_⟩;refine qB sl_109 z_5 rfl ag ah aj ?_;intro v37 h96 le95 hv37;replace hv29 := hv29.mono le95; replace hv33 := hv33.mono le95;refine ⟨am, ?_⟩;refine DoV.freeze hv22 al kR ?_;intro h97 le98 hv22;replace hv29 := hv29.mono le98; replace hv33 := hv33.mono le98; replace hv37 := hv37.mono le98;refine qB sl_109 z_5 rfl ag ah aj ?_;intro v25 h100 le99 hv25;replace hv29 := hv29.mono le99; replace hv33 := hv33.mono le99; replace hv37 := hv37.mono le99; replace hv22 := hv22.mono le99;refine ⟨am, ?_⟩;refine buildSliceN (ls := [[_], [_], [_], [_], [_]]) sl_197 zc_109 (qy ac (qy ac (qy ac (qy ac (qy ac Parts.nil))))) rfl rfl (all5 rfl rfl rfl rfl rfl) (all5 ad ad ad ad ad) ah ah ?_;intro v38 h102 le101 hv38;replace hv29 := hv29.mono le101; replace hv33 := hv33.mono le101; replace hv37 := hv37.mono le101; replace hv22 := hv22.mono le101; replace hv25 := hv25.mono le101;refine ⟨am, ?_⟩;refine qc (concat_bytes (ps := [(v25, [UInt8.ofNat 111]), (v29, numB o.author), (x22, idsB o.preds), (v33, numB o.stamp), (v37, [UInt8.ofNat o.act.kind])]) ⟨hv38, all5 (RBytes.one (b := 111) ah hv25) hv29 hv22 hv33 (RBytes.one hw.act.kind hv37)⟩ (by simp [sumLen]; omega)) ?_;rintro v39 h104 L_ le103 ⟨N39, rfl, hv39⟩;refine ⟨am, ?_⟩;exact ⟨_, zn, v39, N39, rfl, rfl, hv39⟩
   ·
    refine qf fi_61_0 aa ?_;intro p26 hp26;refine ql sc_53 aa ?_;refine conv_u64 it_53_52 af ?_;refine qf fi_61_2 aa ?_;intro p31 hp31;refine ql sc_52 aa ?_;refine qf fi_61_3 aa ?_;intro p34 hp34;refine qf fi_57_0 aa ?_;intro p35 hp35;refine ql sc_5 aa ?_;refine qc (Fun.frozen aq (wire_number af)) ?_;rintro v29 h106 L_ le105 ⟨rfl, hv29⟩;refine ⟨am, ?_⟩;refine qB sl_109 z_5 rfl ag ah aj ?_;intro v37 h108 le107 hv37;replace hv29 := hv29.mono le107;refine ⟨am, ?_⟩;refine DoV.freeze hv22 al kR ?_;intro h109 le110 hv22;replace hv29 := hv29.mono le110; replace hv37 := hv37.mono le110;refine qB sl_109 z_5 rfl ag ah aj ?_;intro v25 h112 le111 hv25;replace hv29 := hv29.mono le111; replace hv37 := hv37.mono le111; replace hv22 := hv22.mono le111;refine ⟨am, ?_⟩;refine qc (Fun.frozen aq (wire_number af)) ?_;rintro v33 h114 L_ le113 ⟨rfl, hv33⟩;replace hv29 := hv29.mono le113; replace hv37 := hv37.mono le113; replace hv22 := hv22.mono le113; replace hv25 := hv25.mono le113;refine ⟨am, ?_⟩;refine buildSliceN (ls := [[_], [_], [_], [_], [_]]) sl_197 zc_109 (qy ac (qy ac (qy ac (qy ac (qy ac Parts.nil))))) rfl rfl (all5 rfl rfl rfl rfl rfl) (all5 ad ad ad ad ad) ah ah ?_;intro v38 h116 le115 hv38;replace hv29 := hv29.mono le115; replace hv37 := hv37.mono le115; replace hv22 := hv22.mono le115; replace hv25 := hv25.mono le115; replace hv33 := hv33.mono le115;refine ⟨am, ?_⟩;refine qc (concat_bytes (ps := [(v25, [UInt8.ofNat 111]), (v29, numB o.author), (x22, idsB o.preds), (v33, numB o.stamp), (v37, [UInt8.ofNat o.act.kind])]) ⟨hv38, all5 (RBytes.one (b := 111) ah hv25) hv29 hv22 hv33 (RBytes.one hw.act.kind hv37)⟩ (by simp [sumLen]; omega)) ?_;rintro v39 h118 L_ le117 ⟨N39, rfl, hv39⟩;refine ⟨am, ?_⟩;exact ⟨_, zn, v39, N39, rfl, rfl, hv39⟩
   ·
    refine qf fi_61_0 aa ?_;intro p26 hp26;refine ql sc_53 aa ?_;refine conv_u64 it_53_52 af ?_;refine qf fi_61_2 aa ?_;intro p31 hp31;refine ql sc_52 aa ?_;refine qf fi_61_3 aa ?_;intro p34 hp34;refine qf fi_57_0 aa ?_;intro p35 hp35;refine ql sc_5 aa ?_;refine qc (Fun.frozen aq (wire_number af)) ?_;rintro v29 h120 L_ le119 ⟨rfl, hv29⟩;refine ⟨am, ?_⟩;refine qB sl_109 z_5 rfl ag ah aj ?_;intro v37 h122 le121 hv37;replace hv29 := hv29.mono le121;refine ⟨am, ?_⟩;refine qc (Fun.frozen aq (wire_number af)) ?_;rintro v33 h124 L_ le123 ⟨rfl, hv33⟩;replace hv29 := hv29.mono le123; replace hv37 := hv37.mono le123;refine ⟨am, ?_⟩;refine DoV.freeze hv22 al kR ?_;intro h125 le126 hv22;replace hv29 := hv29.mono le126; replace hv37 := hv37.mono le126; replace hv33 := hv33.mono le126;refine qB sl_109 z_5 rfl ag ah aj ?_;intro v25 h128 le127 hv25;replace hv29 := hv29.mono le127; replace hv37 := hv37.mono le127; replace hv33 := hv33.mono le127; replace hv22 := hv22.mono le127;refine ⟨am, ?_⟩;refine buildSliceN (ls := [[_], [_], [_], [_], [_]]) sl_197 zc_109 (qy ac (qy ac (qy ac (qy ac (qy ac Parts.nil))))) rfl rfl (all5 rfl rfl rfl rfl rfl) (all5 ad ad ad ad ad) ah ah ?_;intro v38 h130 le129 hv38;replace hv29 := hv29.mono le129; replace hv37 := hv37.mono le129; replace hv33 := hv33.mono le129; replace hv22 := hv22.mono le129; replace hv25 := hv25.mono le129;refine ⟨am, ?_⟩;refine qc (concat_bytes (ps := [(v25, [UInt8.ofNat 111]), (v29, numB o.author), (x22, idsB o.preds), (v33, numB o.stamp), (v37, [UInt8.ofNat o.act.kind])]) ⟨hv38, all5 (RBytes.one (b := 111) ah hv25) hv29 hv22 hv33 (RBytes.one hw.act.kind hv37)⟩ (by simp [sumLen]; omega)) ?_;rintro v39 h132 L_ le131 ⟨N39, rfl, hv39⟩;refine ⟨am, ?_⟩;exact ⟨_, zn, v39, N39, rfl, rfl, hv39⟩
   ·
    refine qf fi_61_0 aa ?_;intro p26 hp26;refine ql sc_53 aa ?_;refine conv_u64 it_53_52 af ?_;refine qf fi_61_2 aa ?_;intro p31 hp31;refine ql sc_52 aa ?_;refine qf fi_61_3 aa ?_;intro p34 hp34;refine qf fi_57_0 aa ?_;intro p35 hp35;refine ql sc_5 aa ?_;refine qB sl_109 z_5 rfl ag ah aj ?_;intro v37 h134 le133 hv37;refine ⟨am, ?_⟩;refine DoV.freeze hv22 al kR ?_;intro h135 le136 hv22;replace hv37 := hv37.mono le136;refine qB sl_109 z_5 rfl ag ah aj ?_;intro v25 h138 le137 hv25;replace hv37 := hv37.mono le137; replace hv22 := hv22.mono le137;refine ⟨am, ?_⟩;refine qc (Fun.frozen aq (wire_number af)) ?_;rintro v29 h140 L_ le139 ⟨rfl, hv29⟩;replace hv37 := hv37.mono le139; replace hv22 := hv22.mono le139; replace hv25 := hv25.mono le139;refine ⟨am, ?_⟩;refine qc (Fun.frozen aq (wire_number af)) ?_;rintro v33 h142 L_ le141 ⟨rfl, hv33⟩;replace hv37 := hv37.mono le141; replace hv22 := hv22.mono le141; replace hv25 := hv25.mono le141; replace hv29 := hv29.mono le141;refine ⟨am, ?_⟩;refine buildSliceN (ls := [[_], [_], [_], [_], [_]]) sl_197 zc_109 (qy ac (qy ac (qy ac (qy ac (qy ac Parts.nil))))) rfl rfl (all5 rfl rfl rfl rfl rfl) (all5 ad ad ad ad ad) ah ah ?_;intro v38 h144 le143 hv38;replace hv37 := hv37.mono le143; replace hv22 := hv22.mono le143; replace hv25 := hv25.mono le143; replace hv29 := hv29.mono le143; replace hv33 := hv33.mono le143;refine ⟨am, ?_⟩;refine qc (concat_bytes (ps := [(v25, [UInt8.ofNat 111]), (v29, numB o.author), (x22, idsB o.preds), (v33, numB o.stamp), (v37, [UInt8.ofNat o.act.kind])]) ⟨hv38, all5 (RBytes.one (b := 111) ah hv25) hv29 hv22 hv33 (RBytes.one hw.act.kind hv37)⟩ (by simp [sumLen]; omega)) ?_;rintro v39 h146 L_ le145 ⟨N39, rfl, hv39⟩;refine ⟨am, ?_⟩;exact ⟨_, zn, v39, N39, rfl, rfl, hv39⟩
   ·
    refine qf fi_61_0 aa ?_;intro p26 hp26;refine ql sc_53 aa ?_;refine conv_u64 it_53_52 af ?_;refine qf fi_61_2 aa ?_;intro p31 hp31;refine ql sc_52 aa ?_;refine qf fi_61_3 aa ?_;intro p34 hp34;refine qf fi_57_0 aa ?_;intro p35 hp35;refine ql sc_5 aa ?_;refine qB sl_109 z_5 rfl ag ah aj ?_;intro v37 h148 le147 hv37;refine ⟨am, ?_⟩;refine qc (Fun.frozen aq (wire_number af)) ?_;rintro v29 h150 L_ le149 ⟨rfl, hv29⟩;replace hv37 := hv37.mono le149;refine ⟨am, ?_⟩;refine DoV.freeze hv22 al kR ?_;intro h151 le152 hv22;replace hv37 := hv37.mono le152; replace hv29 := hv29.mono le152;refine qB sl_109 z_5 rfl ag ah aj ?_;intro v25 h154 le153 hv25;replace hv37 := hv37.mono le153; replace hv29 := hv29.mono le153; replace hv22 := hv22.mono le153;refine ⟨am, ?_⟩;refine qc (Fun.frozen aq (wire_number af)) ?_;rintro v33 h156 L_ le155 ⟨rfl, hv33⟩;replace hv37 := hv37.mono le155; replace hv29 := hv29.mono le155; replace hv22 := hv22.mono le155; replace hv25 := hv25.mono le155;refine ⟨am, ?_⟩;refine buildSliceN (ls := [[_], [_], [_], [_], [_]]) sl_197 zc_109 (qy ac (qy ac (qy ac (qy ac (qy ac Parts.nil))))) rfl rfl (all5 rfl rfl rfl rfl rfl) (all5 ad ad ad ad ad) ah ah ?_;intro v38 h158 le157 hv38;replace hv37 := hv37.mono le157; replace hv29 := hv29.mono le157; replace hv22 := hv22.mono le157; replace hv25 := hv25.mono le157; replace hv33 := hv33.mono le157;refine ⟨am, ?_⟩;refine qc (concat_bytes (ps := [(v25, [UInt8.ofNat 111]), (v29, numB o.author), (x22, idsB o.preds), (v33, numB o.stamp), (v37, [UInt8.ofNat o.act.kind])]) ⟨hv38, all5 (RBytes.one (b := 111) ah hv25) hv29 hv22 hv33 (RBytes.one hw.act.kind hv37)⟩ (by simp [sumLen]; omega)) ?_;rintro v39 h160 L_ le159 ⟨N39, rfl, hv39⟩;refine ⟨am, ?_⟩;exact ⟨_, zn, v39, N39, rfl, rfl, hv39⟩
   ·
    refine qf fi_61_0 aa ?_;intro p26 hp26;refine ql sc_53 aa ?_;refine conv_u64 it_53_52 af ?_;refine qf fi_61_2 aa ?_;intro p31 hp31;refine ql sc_52 aa ?_;refine qf fi_61_3 aa ?_;intro p34 hp34;refine qf fi_57_0 aa ?_;intro p35 hp35;refine ql sc_5 aa ?_;refine qB sl_109 z_5 rfl ag ah aj ?_;intro v37 h162 le161 hv37;refine ⟨am, ?_⟩;refine qc (Fun.frozen aq (wire_number af)) ?_;rintro v29 h164 L_ le163 ⟨rfl, hv29⟩;replace hv37 := hv37.mono le163;refine ⟨am, ?_⟩;refine qc (Fun.frozen aq (wire_number af)) ?_;rintro v33 h166 L_ le165 ⟨rfl, hv33⟩;replace hv37 := hv37.mono le165; replace hv29 := hv29.mono le165;refine ⟨am, ?_⟩;refine DoV.freeze hv22 al kR ?_;intro h167 le168 hv22;replace hv37 := hv37.mono le168; replace hv29 := hv29.mono le168; replace hv33 := hv33.mono le168;refine qB sl_109 z_5 rfl ag ah aj ?_;intro v25 h170 le169 hv25;replace hv37 := hv37.mono le169; replace hv29 := hv29.mono le169; replace hv33 := hv33.mono le169; replace hv22 := hv22.mono le169;refine ⟨am, ?_⟩;refine buildSliceN (ls := [[_], [_], [_], [_], [_]]) sl_197 zc_109 (qy ac (qy ac (qy ac (qy ac (qy ac Parts.nil))))) rfl rfl (all5 rfl rfl rfl rfl rfl) (all5 ad ad ad ad ad) ah ah ?_;intro v38 h172 le171 hv38;replace hv37 := hv37.mono le171; replace hv29 := hv29.mono le171; replace hv33 := hv33.mono le171; replace hv22 := hv22.mono le171; replace hv25 := hv25.mono le171;refine ⟨am, ?_⟩;refine qc (concat_bytes (ps := [(v25, [UInt8.ofNat 111]), (v29, numB o.author), (x22, idsB o.preds), (v33, numB o.stamp), (v37, [UInt8.ofNat o.act.kind])]) ⟨hv38, all5 (RBytes.one (b := 111) ah hv25) hv29 hv22 hv33 (RBytes.one hw.act.kind hv37)⟩ (by simp [sumLen]; omega)) ?_;rintro v39 h174 L_ le173 ⟨N39, rfl, hv39⟩;refine ⟨am, ?_⟩;exact ⟨_, zn, v39, N39, rfl, rfl, hv39⟩
  ·
   rintro s1 h175 L_ le176 ⟨v, N, rfl, rfl, hv7⟩;replace hp1 := hp1.mono le176;refine qf fi_61_3 aa ?_;intro p40 hp40;refine qf fi_57_0 aa ?_;intro p41 hp41;refine ql sc_5 aa ?_;refine eqlB (fun c43 => ?_) (fun c43 => ?_)
   ·
    refine DoRet.r2 (.tmp rfl) (.tmp rfl) (qh (List.Sublist.append_left kS _)) zl ?_;refine ⟨_, N, rfl, rfl, ?_⟩
    have e : msgB o = catM o := by
     have k : o.act.kind = 1 := by omega
     unfold msgB; rw [if_pos k]; simp [catM]
    rw [e]; exact hv7
   ·
    refine qf fi_61_3 aa ?_;intro p46 hp46;refine qf fi_57_1 aa ?_;intro p47 hp47;refine ql sc_9 aa ?_;refine strBytes un_9 un_109 un_5 af ?_;intro v49 h178 le177 hv49;replace hp1 := hp1.mono le177;refine qc (wire_bytes hv49 af) ?_;rintro v50 h180 L_ le179 ⟨x50, N50, rfl, rfl, hv50⟩;replace hp1 := hp1.mono le179;refine DoV.freeze hv50 al kR ?_;intro h181 le182 hv50;replace hp1 := hp1.mono le182;refine qp sl_109 sl_109 z_5 hv7 hv50 kR (by simp only [List.length_map]; omega) ?_;intro v55 N55 hv55;refine ⟨_, kR.symm, ?_⟩;refine qf fi_61_3 aa ?_;intro p56 hp56;refine qf fi_57_0 aa ?_;intro p57 hp57;refine ql sc_5 aa ?_;refine eqlB (fun c59 => ?_) (fun c59 => ?_)
    ·
     refine qf fi_61_3 aa ?_;intro p61 hp61;refine qf fi_57_2 aa ?_;intro p62 hp62;refine load_aggT ag_55 aa ab ?_;refine qc (value_encode hw.act.val (Nat.le_trans hsmall.2 ah) (act4 ho.act (by show o.act.kind = 4; omega))) ?_;rintro v64 h184 L_ le183 ⟨x64, N64, rfl, rfl, hv64⟩;refine DoV.freeze hv64 al kR ?_;intro h185 le186 hv64;refine qp sl_109 sl_109 z_5 hv55 hv64 kR (by simp only [List.length_map, List.length_append]; omega) ?_;intro v69 N69 hv69;refine ⟨_, kR.symm, ?_⟩;refine DoRet.r2 (.tmp rfl) (.tmp rfl) (qh (List.Sublist.append_left kS _)) zl ?_;refine ⟨_, N69, rfl, rfl, ?_⟩
     have e : msgB o = (catM o ++ textB o.act.key.data.toList) ++ valB o.act.val := by
      have k : ¬ o.act.kind = 1 := by omega
      have k2 : o.act.kind = 4 := by omega
      unfold msgB; rw [if_neg k, if_pos k2]; simp [catM]
     rw [e]; refine OB.app ?_; rw [List.map_append]; exact hv69
    ·
     refine DoRet.r2 (.tmp rfl) (.tmp rfl) (qh (List.Sublist.append_left kS _)) zl ?_;refine ⟨_, N55, rfl, rfl, ?_⟩
     have e : msgB o = catM o ++ textB o.act.key.data.toList := by
      have k : ¬ o.act.kind = 1 := by omega
      have k2 : ¬ o.act.kind = 4 := by omega
      unfold msgB; rw [if_neg k, if_neg k2]; simp [catM]
     rw [e]; exact OB.app hv55
end Go.Brd
namespace Go.Brd
open Go Go.Brd Go.Proofs
set_option linter.unusedVariables false
theorem pl_f91 : plain Tryz.prog 91 = true := by kernel_rfl
def encB (o : Op) : List UInt8 := msgB o ++ (numB o.e ++ numB o.s)
theorem msgB_len {o : Op} (ho : OpOk (unsig o)) (h32 : ∀ x ∈ o.preds, x.length = 32) : (msgB o).length ≤ 300 := by
 have hsmall := actOk_small (a := o.act) ho.act;have k1 : o.preds.length ≤ 4 := ho.preds;have kz1 := numB_len o.author;have kz2 := numB_len o.stamp;have kz3 := idsB_len h32;have kz4 := textB_len o.act.key.data.toList;have kse : o.act.key.data.toList.length = o.act.key.size := by simp
 have kz5 := valB_len (v := o.act.val) hsmall.2;unfold msgB;simp only [List.length_append, List.length_cons, List.length_nil]
 have e : (if o.act.kind = 1 then [] else textB o.act.key.data.toList ++ (if o.act.kind = 4 then valB o.act.val else [])).length ≤ 9 + o.act.key.data.toList.length + 40 := by
  split
  · exact Nat.zero_le _
  · rw [List.length_append]; split
    · omega
    · simp only [List.length_nil]; omega
 omega
theorem op_encode {c : World} {h : GH} {L : Own} {o : Op} {pv : Value} (ho : OpOk o) (hw : OpWF o) (hp : RIds h pv o.preds) :
 Fun Tryz.prog c 99 #[opV o pv] h L (fun u _ L' => ∃ x N, L' = N ++ L ∧ u = .tuple #[x, .int .i64 0] ∧ OB x (encB o) N) := by
 have kml := msgB_len ho.unsig hp.len32;have kz1 := numB_len o.e;have kz2 := numB_len o.s;have k3 := ho.e;have k4 := ho.s;refine zA (N := 30) (args := [.agg (opC2 o pv).toArray]) Tryz.func99 ?_;refine box_at rfl ?_;intro p1 h2 le1 hp1;replace hp := hp.mono le1;refine qX ag_61 aa ag ?_;refine qc (op_check ho hw hp) ?_;rintro v8 h4 L_ le3 ⟨rfl, rfl⟩;replace hp := hp.mono le3; replace hp1 := hp1.mono le3;refine neqB (fun c10 => ?_) (fun c10 => ?_)
 ·
  exact absurd rfl c10
 ·
  refine qX ag_61 aa ag ?_;refine qc (op_message ho.unsig hw hp) ?_;rintro v14 h6 L_ le5 ⟨x14, N14, rfl, rfl, hv14⟩;replace hp1 := hp1.mono le5;refine DoDraw.intro mixed [0, 1, 2, 3, 4, 6, 7, 8, 9, 5, 10, 11, 12, 13, 14] [] ae am ?_;refine qf fi_61_4 aa ?_;intro p18 hp18;refine qf fi_59_0 aa ?_;intro p19 hp19;refine ql sc_53 aa ?_;refine conv_u64 it_53_52 af ?_;refine qf fi_61_4 aa ?_;intro p23 hp23;refine qf fi_59_1 aa ?_;intro p24 hp24;refine ql sc_53 aa ?_;refine conv_u64 it_53_52 af ?_;refine DoCall.freeze pl_f91 hv14 al kR ?_;intro h7 le8 hv14;refine qc (Fun.frozen aq (wire_number af)) ?_;rintro v22 h10 L_ le9 ⟨rfl, hv22⟩;replace hv14 := hv14.mono le9;refine ⟨am, ?_⟩;refine qc (Fun.frozen aq (wire_number af)) ?_;rintro v27 h12 L_ le11 ⟨rfl, hv27⟩;replace hv14 := hv14.mono le11; replace hv22 := hv22.mono le11;refine ⟨am, ?_⟩;refine buildSliceN (ls := [[_], [_], [_]]) sl_197 zc_109 (qy ac (qy ac (qy ac Parts.nil))) rfl rfl (all3 rfl rfl rfl) (all3 ad ad ad) ah ah ?_;intro v28 h14 le13 hv28;replace hv14 := hv14.mono le13; replace hv22 := hv22.mono le13; replace hv27 := hv27.mono le13;refine ⟨am, ?_⟩;refine qc (concat_bytes (ps := [(x14, msgB o), (v22, numB o.e), (v27, numB o.s)]) ⟨hv28, all3 hv14 hv22 hv27⟩ (by simp [sumLen]; omega)) ?_;rintro v29 h16 L_ le15 ⟨N29, rfl, hv29⟩;refine ⟨am, ?_⟩;refine ⟨_, Fr.Sub.refl _, ?_⟩;refine DoRet.r2 (.tmp rfl) (.tmp rfl) (qh (List.Sublist.append_left kS _)) zl ?_;refine ⟨_, N29, rfl, rfl, ?_⟩;have e : encB o = catB [(x14, msgB o), (v22, numB o.e), (v27, numB o.s)] := by simp [encB, catB]
  rw [e]; exact hv29
end Go.Brd
namespace Go.Brd
open Go Go.Brd Go.Proofs
set_option linter.unusedVariables false
theorem actOk_kind {a : Act} (h : actOk a = true) : a.kind = 1 ∨ a.kind = 2 ∨ a.kind = 3 ∨ a.kind = 4 := by
 rw [actOk_def] at h;split at h
 · omega
 · split at h
   · omega
   · split at h
     · omega
     · cases h
theorem ref_text6 {c : World} {h : GH} {L : Own} {o : Op} {pv : Value} (ho : OpOk (unsig o)) (hw : OpWF o) (hp : RIds h pv o.preds) :
 Fun Tryz.prog c 159 #[opV o pv] h L (fun u _ L' => ∃ N, L' = N ++ L ∧ OB u (msgB o) N) := by
 have hsmall := actOk_small (a := o.act) ho.act;have k1 : o.preds.length ≤ 4 := ho.preds;have k2 : o.stamp ≤ 1000000000000 := ho.stamp;have k5 := hw.author;have h32 := hp.len32;have kz1 := numB_len o.author;have kz2 := numB_len o.stamp;have kz3 := idsB_len h32;have kz4 := textB_len o.act.key.data.toList;have kse : o.act.key.data.toList.length = o.act.key.size := by simp
 have kz5 := valB_len (v := o.act.val) hsmall.2;have kki : o.act.kind = 1 ∨ o.act.kind = 2 ∨ o.act.kind = 3 ∨ o.act.kind = 4 := actOk_kind (a := o.act) ho.act;refine zA (N := 47) (args := [.agg (opC2 o pv).toArray]) Tryz.func159 ?_;refine box_at rfl ?_;intro p1 h2 le1 hp1;replace hp := hp.mono le1;refine buildSliceO (ls := [[_]]) sl_109 zc_5 (qy ac Parts.nil) rfl rfl (all1 rfl) (all1 rfl) ah ah ?_;intro v4 N4 hv4;replace hv4 := OB.one (b := 111) ah hv4;refine qf fi_61_0 aa ?_;intro p5 hp5;refine ql sc_53 aa ?_;refine conv_u64 it_53_52 af ?_;refine qc (Fun.frozen aq (ref_number af)) ?_;rintro v8 h4 L_ le3 ⟨rfl, hv8⟩;replace hp := hp.mono le3; replace hp1 := hp1.mono le3;refine qp sl_109 sl_109 z_5 hv4 hv8 kR (by simp only [List.length_map, List.length_append, List.length_cons, List.length_nil]; omega) ?_;intro v9 N9 hv9;refine ⟨_, kR.symm, ?_⟩;refine DoDraw.cut (fun s0 s' h' L' => ∃ (v : Value) (N : Own), s' = [(3, v)] ++ qR s0 [1] ∧ N ++ L = L' ∧ OB v ((([UInt8.ofNat 111] ++ numB o.author) ++ idsB o.preds) ++ numB o.stamp) N) ?_ ?_
 ·
  refine DoDraw.intros mixed [0, 1, 2, 5, 6, 3, 4, 7, 8, 9] [] [] ae am (fcons ?_ fnil)
  ·
   refine qf fi_61_1 aa ?_;intro p11 hp11;refine ql sc_22 aa ?_;refine qf fi_61_2 aa ?_;intro p15 hp15;refine ql sc_52 aa ?_;refine qc (Fun.frozen al (ref_list hp af)) ?_;rintro v13 h6 L_ le5 ⟨rfl, hv13⟩;refine ⟨am, ?_⟩;refine qp sl_109 sl_109 z_5 (OB.app hv9) hv13 kR (by simp only [List.length_map, List.length_append, List.length_cons, List.length_nil]; omega) ?_;intro v14 N14 hv14;refine ⟨_, kR.symm, ?_⟩;refine ⟨am, ?_⟩;refine qc (Fun.frozen aq (ref_number af)) ?_;rintro v17 h8 L_ le7 ⟨rfl, hv17⟩;refine ⟨am, ?_⟩;refine qp sl_109 sl_109 z_5 (OB.app hv14) hv17 kR (by simp only [List.length_map, List.length_append, List.length_cons, List.length_nil]; omega) ?_;intro v18 N18 hv18;refine ⟨_, kR.symm, ?_⟩;refine ⟨am, ?_⟩;exact ⟨_, zn, v18, N18, rfl, rfl, OB.app hv18⟩
 ·
  rintro s1 h9 L_ le10 ⟨v, N, rfl, rfl, hv3⟩;replace hp1 := hp1.mono le10;refine qf fi_61_3 aa ?_;intro p20 hp20;refine qf fi_57_0 aa ?_;intro p21 hp21;refine ql sc_5 aa ?_;refine qB sl_109 z_5 rfl ag ah aj ?_;intro v23 h12 le11 hv23;replace hp1 := hp1.mono le11;refine qp sl_109 sl_109 z_5 hv3 (RBytes.one hw.act.kind hv23) kR (by simp only [List.length_map, List.length_append, List.length_cons, List.length_nil]; omega) ?_;intro v24 N24 hv24;refine ⟨_, kR.symm, ?_⟩;refine qf fi_61_3 aa ?_;intro p25 hp25;refine qf fi_57_0 aa ?_;intro p26 hp26;refine ql sc_5 aa ?_;refine neqB (fun c28 => ?_) (fun c28 => ?_)
  ·
   refine qf fi_61_3 aa ?_;intro p30 hp30;refine qf fi_57_1 aa ?_;intro p31 hp31;refine ql sc_9 aa ?_;refine strBytes un_9 un_109 un_5 af ?_;intro v33 h14 le13 hv33;replace hp1 := hp1.mono le13;refine qc (Fun.frozen al (ref_text hv33 af)) ?_;rintro v34 h16 L_ le15 ⟨rfl, hv34⟩;replace hp1 := hp1.mono le15;refine qp sl_109 sl_109 z_5 (OB.app hv24) hv34 kR (by simp only [List.length_map, List.length_append, List.length_cons, List.length_nil]; omega) ?_;intro v35 N35 hv35;refine ⟨_, kR.symm, ?_⟩;refine qf fi_61_3 aa ?_;intro p36 hp36;refine qf fi_57_0 aa ?_;intro p37 hp37;refine ql sc_5 aa ?_;refine eqlB (fun c39 => ?_) (fun c39 => ?_)
   ·
    refine qf fi_61_3 aa ?_;intro p41 hp41;refine qf fi_57_2 aa ?_;intro p42 hp42;refine load_aggT ag_55 aa ab ?_;refine qc (Fun.frozen al (ref_vbytes (v := o.act.val) hw.act.val (Nat.le_trans hsmall.2 ah))) ?_;rintro v44 h18 L_ le17 ⟨rfl, hv44⟩;refine qp sl_109 sl_109 z_5 (OB.app hv35) hv44 kR (by simp only [List.length_map, List.length_append, List.length_cons, List.length_nil]; omega) ?_;intro v45 N45 hv45;refine ⟨_, kR.symm, ?_⟩;refine DoRet.r1 (.tmp rfl) (qh (List.Sublist.append_left kS _)) zl ?_;refine ⟨N45, rfl, ?_⟩;have k : ¬ o.act.kind = 1 := by omega
    have k2 : o.act.kind = 4 := by omega
    have e : msgB o = ((((([UInt8.ofNat 111] ++ numB o.author) ++ idsB o.preds) ++ numB o.stamp) ++ [UInt8.ofNat o.act.kind]) ++ textB o.act.key.data.toList) ++ valB o.act.val := by
     unfold msgB; rw [if_neg k, if_pos k2]; simp
    rw [e]; exact OB.app hv45
   ·
    refine DoRet.r1 (.tmp rfl) (qh (List.Sublist.append_left kS _)) zl ?_;refine ⟨N35, rfl, ?_⟩;have k : ¬ o.act.kind = 1 := by omega
    have k2 : ¬ o.act.kind = 4 := by omega
    have e : msgB o = (((([UInt8.ofNat 111] ++ numB o.author) ++ idsB o.preds) ++ numB o.stamp) ++ [UInt8.ofNat o.act.kind]) ++ textB o.act.key.data.toList := by
     unfold msgB; rw [if_neg k, if_neg k2]; simp
    rw [e]; exact OB.app hv35
  ·
   refine qf fi_61_3 aa ?_;intro p36 hp36;refine qf fi_57_0 aa ?_;intro p37 hp37;refine ql sc_5 aa ?_;refine eqlB (fun c39 => ?_) (fun c39 => ?_)
   ·
    omega
   ·
    refine DoRet.r1 (.tmp rfl) (qh (List.Sublist.append_left kS _)) zl ?_;refine ⟨N24, rfl, ?_⟩;have k : o.act.kind = 1 := by omega
    have e : msgB o = ((([UInt8.ofNat 111] ++ numB o.author) ++ idsB o.preds) ++ numB o.stamp) ++ [UInt8.ofNat o.act.kind] := by
     unfold msgB; rw [if_pos k]; simp
    rw [e]; exact OB.app hv24
theorem ref_bytes6 {c : World} {h : GH} {L : Own} {o : Op} {pv : Value} (ho : OpOk o) (hw : OpWF o) (hp : RIds h pv o.preds) :
 Fun Tryz.prog c 106 #[opV o pv] h L (fun u _ L' => ∃ N, L' = N ++ L ∧ OB u (encB o) N) := by
 have kml := msgB_len ho.unsig hp.len32;have kz1 := numB_len o.e;have kz2 := numB_len o.s;have k3 := ho.e;have k4 := ho.s;refine zA (N := 17) (args := [.agg (opC2 o pv).toArray]) Tryz.func106 ?_;refine box_at rfl ?_;intro p1 h2 le1 hp1;replace hp := hp.mono le1;refine DoDraw.cut (fun s0 s' h' L' => ∃ (v : Value) (N : Own), s' = [(2, v)] ++ qR s0 [] ∧ N ++ L = L' ∧ OB v ((msgB o ++ numB o.e) ++ numB o.s) N) ?_ ?_
 ·
  refine DoDraw.intros mixed [0, 2, 3, 4, 5, 8, 9, 10, 11, 1, 6, 7, 12, 13, 14] [] [] ae am (fcons ?_ fnil)
  ·
   refine qX ag_61 aa ag ?_;refine qf fi_61_4 aa ?_;intro p5 hp5;refine qf fi_59_0 aa ?_;intro p6 hp6;refine ql sc_53 aa ?_;refine conv_u64 it_53_52 af ?_;refine qf fi_61_4 aa ?_;intro p11 hp11;refine qf fi_59_1 aa ?_;intro p12 hp12;refine ql sc_53 aa ?_;refine conv_u64 it_53_52 af ?_;refine qc (ref_text6 ho.unsig hw hp) ?_;rintro v4 h4 L_ le3 ⟨N4, rfl, hv4⟩;refine ⟨am, ?_⟩;refine qc (Fun.frozen aq (ref_number af)) ?_;rintro v9 h6 L_ le5 ⟨rfl, hv9⟩;refine ⟨am, ?_⟩;refine qp sl_109 sl_109 z_5 hv4 hv9 kR (by simp only [List.length_map, List.length_append, List.length_cons, List.length_nil]; omega) ?_;intro v10 N10 hv10;refine ⟨_, kR.symm, ?_⟩;refine ⟨am, ?_⟩;refine qc (Fun.frozen aq (ref_number af)) ?_;rintro v15 h8 L_ le7 ⟨rfl, hv15⟩;refine ⟨am, ?_⟩;refine qp sl_109 sl_109 z_5 (OB.app hv10) hv15 kR (by simp only [List.length_map, List.length_append, List.length_cons, List.length_nil]; omega) ?_;intro v16 N16 hv16;refine ⟨_, kR.symm, ?_⟩;refine ⟨am, ?_⟩;exact ⟨_, zn, v16, N16, rfl, rfl, OB.app hv16⟩
 ·
  rintro s1 h9 L_ le10 ⟨v, N, rfl, rfl, hv2⟩;refine DoRet.r1 (.tmp rfl) (qh (List.Sublist.append_left kS _)) zl ?_;refine ⟨N, rfl, ?_⟩;have e : encB o = (msgB o ++ numB o.e) ++ numB o.s := by simp [encB]
  rw [e]; exact hv2
end Go.Brd
namespace Go.Brd
open Go Go.Brd Go.Proofs
set_option linter.unusedVariables false
theorem it_3_143 : intT Tryz.prog 3 143 .u64 = true := by kernel_rfl
def rotr (x n : Nat) : Nat := (x / 2 ^ n) ||| (x * 2 ^ (32 - n) % 4294967296)
theorem rotr_lt {x n : Nat} (h : x < 4294967296) : rotr x n < 4294967296 := Nat.or_lt_two_pow (n := 32) (Nat.lt_of_le_of_lt (Nat.div_le_self _ _) h) (Nat.mod_lt _ ah)
def mixR (x i j k : Nat) : Nat := (rotr x i ^^^ rotr x j) ^^^ rotr x k
theorem mixR_lt {x i j k : Nat} (h : x < 4294967296) : mixR x i j k < 4294967296 := Nat.xor_lt_two_pow (n := 32) (Nat.xor_lt_two_pow (n := 32) (rotr_lt h) (rotr_lt h)) (rotr_lt h)
theorem rotl32 {c : World} {h : GH} {L : Own} {x n : Nat} (hx : x < 4294967296) (hn : 1 ≤ n) (hn2 : n ≤ 31) :
 Fun Tryz.prog c 246 #[.int .u32 (x : Int), .int .i64 (-(n : Int))] h L (fun u _ L' => u = .int .u32 (rotr x n : Nat) ∧ L = L') := by
 refine zA (N := 17) (args := [.int .u32 (x : Int), .int .i64 (-(n : Int))]) Tryz.func246 ?_;refine conv_u64w (t := 143) it_3_143 ?_;refine and_u64 (b := 31) (u64of_lt _) ah ?_;rw [show (u64of (-(n : Int)) &&& 31 : Nat) = 32 - n by rw [show (31 : Nat) = 2 ^ 5 - 1 from rfl, Nat.and_two_pow_sub_one_eq_mod]; unfold u64of; omega];refine shl_u32 (n := 32 - n) af ?_;refine sub_u64 (a := 32) (b := 32 - n) af af ?_;rw [show 32 - (32 - n) = n by omega];refine shr_nat (n := n) (by show _ ≤ 32; omega) ?_;refine or_u32 (Nat.mod_lt _ ah) (Nat.lt_of_le_of_lt (Nat.div_le_self _ _) hx) ?_;refine ze rfl ?_;exact ⟨by unfold rotr; rw [Nat.or_comm], rfl⟩
theorem ref_turn {c : World} {h : GH} {L : Own} {x n : Nat} (hx : x < 4294967296) (hn : 1 ≤ n) (hn2 : n ≤ 31) :
 Fun Tryz.prog c 236 #[.int .u32 (x : Int), .int .i64 (n : Int)] h L (fun u _ L' => u = .int .u32 (rotr x n : Nat) ∧ L = L') := by
 refine zA (N := 13) (args := [.int .u32 (x : Int), .int .i64 (n : Int)]) Tryz.func236 ?_;refine DoDraw.intro mixed [0, 1, 2, 3, 4, 5, 6, 7, 8] [] ae am ?_;refine shr_nat (n := n) (by show _ ≤ 32; omega) ?_;refine sub_i64n (a := 32) af ah ?_;refine shl_u32 (n := 32 - n) af ?_;refine or_u32 (Nat.lt_of_le_of_lt (Nat.div_le_self _ _) hx) (Nat.mod_lt _ ah) ?_;refine ⟨_, Fr.Sub.refl _, ?_⟩;refine ze rfl ?_;exact ⟨rfl, rfl⟩
theorem digest_mix {c : World} {h : GH} {L : Own} {x i j k : Nat} (hx : x < 4294967296) (hi : 1 ≤ i ∧ i ≤ 31) (hj : 1 ≤ j ∧ j ≤ 31) (hk : 1 ≤ k ∧ k ≤ 31) :
 Fun Tryz.prog c 243 #[.int .u32 (x : Int), .int .i64 (i : Int), .int .i64 (j : Int), .int .i64 (k : Int)] h L (fun u _ L' => u = .int .u32 (mixR x i j k : Nat) ∧ L = L') := by
 refine zA (N := 23) (args := [.int .u32 (x : Int), .int .i64 (i : Int), .int .i64 (j : Int), .int .i64 (k : Int)]) Tryz.func243 ?_;refine neg_i64 ak ?_;refine qc (rotl32 hx af af) ?_;rintro v12 h2 L_ le1 ⟨rfl, rfl⟩;refine neg_i64 ak ?_;refine qc (rotl32 hx af af) ?_;rintro v16 h4 L_ le3 ⟨rfl, rfl⟩;refine xor_u32 (rotr_lt hx) (rotr_lt hx) ?_;refine neg_i64 ak ?_;refine qc (rotl32 hx af af) ?_;rintro v21 h6 L_ le5 ⟨rfl, rfl⟩;refine xor_u32 (Nat.xor_lt_two_pow (n := 32) (rotr_lt hx) (rotr_lt hx)) (rotr_lt hx) ?_;refine ze rfl ?_;exact ⟨rfl, rfl⟩
def shaK : List Nat := [1116352408, 1899447441, 3049323471, 3921009573, 961987163, 1508970993, 2453635748, 2870763221, 3624381080, 310598401, 607225278, 1426881987, 1925078388, 2162078206, 2614888103, 3248222580, 3835390401, 4022224774, 264347078, 604807628, 770255983, 1249150122, 1555081692, 1996064986, 2554220882, 2821834349, 2952996808, 3210313671, 3336571891, 3584528711, 113926993, 338241895, 666307205, 773529912, 1294757372, 1396182291, 1695183700, 1986661051, 2177026350, 2456956037, 2730485921, 2820302411, 3259730800, 3345764771, 3516065817, 3600352804, 4094571909, 275423344, 430227734, 506948616, 659060556, 883997877, 958139571, 1322822218, 1537002063, 1747873779, 1955562222, 2024104815, 2227730452, 2361852424, 2428436474, 2756734187, 3204031479, 3329325298]
theorem u32C_size {l : List Nat} : ∀ x ∈ l.map u32C, x.length = 1 := fun x hx => by obtain ⟨n, _, rfl⟩ := List.mem_map.1 hx; rfl
theorem u32C_one {l : List Nat} : ∀ x ∈ l.map u32C, x.all oneCell = true := fun x hx => by obtain ⟨n, _, rfl⟩ := List.mem_map.1 hx; rfl
theorem ref_constants {c : World} {h : GH} {L : Own} :
 Fun Tryz.prog c 237 #[] h L (fun u h' L' => RU32 h' u shaK ∧ L = L') := by
 refine zA (N := 2) (args := []) Tryz.func237 ?_;refine buildSliceN (ls := shaK.map u32C) sl_239 zc_53 (qy rfl (qy rfl (qy rfl (qy rfl (qy rfl (qy rfl (qy rfl (qy rfl (qy rfl (qy rfl (qy rfl (qy rfl (qy rfl (qy rfl (qy rfl (qy rfl (qy rfl (qy rfl (qy rfl (qy rfl (qy rfl (qy rfl (qy rfl (qy rfl (qy rfl (qy rfl (qy rfl (qy rfl (qy rfl (qy rfl (qy rfl (qy rfl (qy rfl (qy rfl (qy rfl (qy rfl (qy rfl (qy rfl (qy rfl (qy rfl (qy rfl (qy rfl (qy rfl (qy rfl (qy rfl (qy rfl (qy rfl (qy rfl (qy rfl (qy rfl (qy rfl (qy rfl (qy rfl (qy rfl (qy rfl (qy rfl (qy rfl (qy rfl (qy rfl (qy rfl (qy rfl (qy rfl (qy rfl (qy rfl Parts.nil)))))))))))))))))))))))))))))))))))))))))))))))))))))))))))))))) (by kernel_rfl) rfl u32C_size u32C_one ah ah ?_;intro v1 h1 le1 hv1;refine ze rfl ?_;exact ⟨hv1, rfl⟩
end Go.Brd
namespace Go.Brd
open Go Go.Brd Go.Proofs
set_option linter.unusedVariables false
theorem ag_211 : aggN Tryz.prog 211 8 = true := by kernel_rfl
theorem ar_211 : arrayOf Tryz.prog 211 8 53 1 = true := by kernel_rfl
theorem si_211 : sizeIs Tryz.prog 211 8 = true := by kernel_rfl
theorem zc_211 : zeroC Tryz.prog 211 = some ([.int .u32 0, .int .u32 0, .int .u32 0, .int .u32 0, .int .u32 0, .int .u32 0, .int .u32 0, .int .u32 0]) := by kernel_rfl
abbrev M32 : Nat := 4294967296
def byt (b : List UInt8) (k : Nat) : Nat := (b.getD k 0).toNat
theorem byt_lt (b : List UInt8) (k : Nat) : byt b k < 256 := (b.getD k 0).toNat_lt
theorem byt_at {b : List UInt8} {k : Nat} (h : k < b.length) : b[k]? = some (UInt8.ofNat (byt b k)) := by
 unfold byt; rw [List.getElem?_eq_getElem h, List.getD_eq_getElem?_getD, List.getElem?_eq_getElem h]; simp
def be32 (b : List UInt8) (i : Nat) : Nat := ((byt b (4 * i) * 256 + byt b (4 * i + 1)) * 256 + byt b (4 * i + 2)) * 256 + byt b (4 * i + 3)
theorem be32_lt (b : List UInt8) (i : Nat) : be32 b i < 4294967296 := by
 have h0 := byt_lt b (4 * i); have h1 := byt_lt b (4 * i + 1); have h2 := byt_lt b (4 * i + 2); have h3 := byt_lt b (4 * i + 3)
 unfold be32; omega
def sg0 (x : Nat) : Nat := (rotr x 7 ^^^ rotr x 18) ^^^ (x / 2 ^ 3)
def sg1 (x : Nat) : Nat := (rotr x 17 ^^^ rotr x 19) ^^^ (x / 2 ^ 10)
def wnext (ws : List Nat) : Nat := ((((ws.getD (ws.length - 16) 0 + ws.getD (ws.length - 7) 0) % M32) + sg0 (ws.getD (ws.length - 15) 0)) % M32 + sg1 (ws.getD (ws.length - 2) 0)) % M32
def shaW (b : List UInt8) : Nat → List Nat
 | 0 => []
 | n + 1 => shaW b n ++ [if n < 16 then be32 b n else wnext (shaW b n)]
theorem shaW_len (b : List UInt8) : ∀ n, (shaW b n).length = n
 | 0 => rfl
 | n + 1 => by simp [shaW, shaW_len b n]
theorem shaW_lt (b : List UInt8) : ∀ n, ∀ x ∈ shaW b n, x < 4294967296
 | 0 => by simp [shaW]
 | n + 1 => by
  intro x hx;simp only [shaW, List.mem_append, List.mem_singleton] at hx;rcases hx with h | h
  · exact shaW_lt b n x h
  · subst h; split
    · exact be32_lt b n
    · exact Nat.mod_lt _ ah
theorem shaW_at (b : List UInt8) {n k : Nat} (h : k < n) : (shaW b n)[k]? = some ((shaW b n).getD k 0) := by
 rw [List.getElem?_eq_getElem (by rw [shaW_len]; exact h), List.getD_eq_getElem?_getD, List.getElem?_eq_getElem (by rw [shaW_len]; exact h)]; rfl
theorem shaW_getlt (b : List UInt8) {n k : Nat} (h : k < n) : (shaW b n).getD k 0 < 4294967296 := shaW_lt b n _ (List.mem_of_getElem? (shaW_at b h))
structure S8 where
 a : Nat
 b : Nat
 c : Nat
 d : Nat
 e : Nat
 f : Nat
 g : Nat
 h : Nat
def s8C (s : S8) : List Value := [.int .u32 s.a, .int .u32 s.b, .int .u32 s.c, .int .u32 s.d, .int .u32 s.e, .int .u32 s.f, .int .u32 s.g, .int .u32 s.h]
structure S8.Lt (s : S8) : Prop where
 a : s.a < 4294967296
 b : s.b < 4294967296
 c : s.c < 4294967296
 d : s.d < 4294967296
 e : s.e < 4294967296
 f : s.f < 4294967296
 g : s.g < 4294967296
 h : s.h < 4294967296
def chF (s : S8) : Nat := (s.e &&& s.f) ^^^ ((4294967295 - s.e) &&& s.g)
def majF (s : S8) : Nat := ((s.a &&& s.b) ^^^ (s.a &&& s.c)) ^^^ (s.b &&& s.c)
def pF (s : S8) (k w : Nat) : Nat := ((((s.h + mixR s.e 6 11 25) % M32 + chF s) % M32 + k) % M32 + w) % M32
def qF (s : S8) : Nat := (mixR s.a 2 13 22 + majF s) % M32
def rnd (s : S8) (k w : Nat) : S8 := ⟨(pF s k w + qF s) % M32, s.a, s.b, s.c, (s.d + pF s k w) % M32, s.e, s.f, s.g⟩
def rnds (ws : List Nat) (s : S8) : Nat → S8
 | 0 => s
 | t + 1 => rnd (rnds ws s t) (shaK.getD t 0) (ws.getD t 0)
def add8 (s t : S8) : S8 := ⟨(s.a + t.a) % M32, (s.b + t.b) % M32, (s.c + t.c) % M32, (s.d + t.d) % M32, (s.e + t.e) % M32, (s.f + t.f) % M32, (s.g + t.g) % M32, (s.h + t.h) % M32⟩
def ground (s : S8) (b : List UInt8) : S8 := add8 s (rnds (shaW b 64) s 64)
def sha0 : S8 := ⟨1779033703, 3144134277, 1013904242, 2773480762, 1359893119, 2600822924, 528734635, 1541459225⟩
theorem rnd_lt {s : S8} (h : s.Lt) (k w : Nat) : (rnd s k w).Lt := ⟨Nat.mod_lt _ ah, h.a, h.b, h.c, Nat.mod_lt _ ah, h.e, h.f, h.g⟩
theorem rnds_lt {ws : List Nat} {s : S8} (h : s.Lt) : ∀ n, (rnds ws s n).Lt
 | 0 => h
 | n + 1 => rnd_lt (rnds_lt h n) _ _
theorem add8_lt (s t : S8) : (add8 s t).Lt := ⟨Nat.mod_lt _ ah, Nat.mod_lt _ ah, Nat.mod_lt _ ah, Nat.mod_lt _ ah, Nat.mod_lt _ ah, Nat.mod_lt _ ah, Nat.mod_lt _ ah, Nat.mod_lt _ ah⟩
theorem sg0_lt {x : Nat} (h : x < 4294967296) : sg0 x < 4294967296 := Nat.xor_lt_two_pow (n := 32) (Nat.xor_lt_two_pow (n := 32) (rotr_lt h) (rotr_lt h)) (Nat.lt_of_le_of_lt (Nat.div_le_self _ _) h)
theorem sg1_lt {x : Nat} (h : x < 4294967296) : sg1 x < 4294967296 := Nat.xor_lt_two_pow (n := 32) (Nat.xor_lt_two_pow (n := 32) (rotr_lt h) (rotr_lt h)) (Nat.lt_of_le_of_lt (Nat.div_le_self _ _) h)
theorem shaK_at {k : Nat} (h : k < 64) : shaK[k]? = some (shaK.getD k 0) := by
 have hl : shaK.length = 64 := rfl;rw [List.getElem?_eq_getElem af, List.getD_eq_getElem?_getD, List.getElem?_eq_getElem af]; rfl
theorem ref_first {c : World} {h : GH} {L : Own} :
 Fun Tryz.prog c 162 #[] h L (fun u _ L' => u = .agg (s8C sha0).toArray ∧ L = L') := by
 refine zA (N := 2) (args := []) Tryz.func162 ?_;refine qa zc_211 ?_;intro b0;refine build_array zc_211 ar_211 (qy ac (qy ac (qy ac (qy ac (qy ac (qy ac (qy ac (qy ac Parts.nil)))))))) rfl ?_;refine kB si_211 ac ai ad kR ab rfl kR.symm ?_;refine DoRet.r1 (.cell rfl (qx ag_211 kH ab an rfl)) (qh (zu kS)) zl ?_;exact ⟨rfl, rfl⟩
end Go.Brd
namespace Go.Brd
open Go Go.Brd Go.Proofs
set_option linter.unusedVariables false
theorem valOk_no {v w : Val} (hw : wantV v = w) (hne : v ≠ w) : valOk v = false := by simp [valOk, hw, hne]
theorem valOk_yes {v w : Val} (hw : wantV v = w) (he : v = w) (hk : v.kind ≠ 0) : valOk v = true := by
 unfold valOk; rw [hw, decide_eq_true he, decide_eq_true hk]; rfl
theorem ref_vexp {c : World} {h : GH} {L : Own} {b : Nat} (hb : b < 18446744073709551616) :
 Fun Tryz.prog c 247 #[.int .u64 (b : Int)] h L (fun u _ L' => u = (.int .i64 (b / 4503599627370496 % 2048 : Nat)) ∧ L = L') := by
 refine zA (N := 7) (args := [.int .u64 (b : Int)]) Tryz.func247 ?_;refine rem_nat (b := 9223372036854775808) af ?_;refine quo_nat (b := 4503599627370496) af (by rw [wrap_u64]; omega) ?_;rw [show b % 9223372036854775808 / 4503599627370496 = b / 4503599627370496 % 2048 by omega];refine conv_i64 it_52_3 ak ?_;refine ze rfl ?_;exact ⟨rfl, rfl⟩
theorem ref_vfrac {c : World} {h : GH} {L : Own} {b : Nat} (hb : b < 18446744073709551616) :
 Fun Tryz.prog c 248 #[.int .u64 (b : Int)] h L (fun u _ L' => u = (.int .u64 (b % 4503599627370496 : Nat)) ∧ L = L') := by
 refine zA (N := 5) (args := [.int .u64 (b : Int)]) Tryz.func248 ?_;refine rem_nat (b := 4503599627370496) af ?_;refine ze rfl ?_;exact ⟨rfl, rfl⟩
theorem ref_vclass {c : World} {h : GH} {L : Own} {b : Nat} (hb : b < 18446744073709551616) :
 Fun Tryz.prog c 244 #[.int .u64 (b : Int)] h L (fun u _ L' => u = (.int .u8 (classF b : Nat)) ∧ L = L') := by
 refine zA (N := 21) (args := [.int .u64 (b : Int)]) Tryz.func244 ?_;refine qc (ref_vexp hb) ?_;rintro v6 h2 L_ le1 ⟨rfl, rfl⟩;refine qc (ref_vfrac hb) ?_;rintro v8 h4 L_ le3 ⟨rfl, rfl⟩;refine eqlB (fun c10 => ?_) (fun c10 => ?_)
 ·
  refine eqlB (fun c13 => ?_) (fun c13 => ?_)
  ·
   refine ze rfl ?_;refine ⟨?_, rfl⟩;unfold classF;repeat' split
   all_goals first | rfl | (exfalso; omega)
  ·
   refine eqlB (fun c16 => ?_) (fun c16 => ?_)
   ·
    refine ze rfl ?_;refine ⟨?_, rfl⟩;unfold classF;repeat' split
    all_goals first | rfl | (exfalso; omega)
   ·
    refine lssB (fun c18 => ?_) (fun c18 => ?_)
    ·
     refine ze rfl ?_;refine ⟨?_, rfl⟩;unfold classF;repeat' split
     all_goals first | rfl | (exfalso; omega)
    ·
     refine eqlB (fun c20 => ?_) (fun c20 => ?_)
     ·
      refine ze rfl ?_;refine ⟨?_, rfl⟩;unfold classF;repeat' split
      all_goals first | rfl | (exfalso; omega)
     ·
      refine ze rfl ?_;refine ⟨?_, rfl⟩;unfold classF;repeat' split
      all_goals first | rfl | (exfalso; omega)
 ·
  refine eqlB (fun c16 => ?_) (fun c16 => ?_)
  ·
   refine ze rfl ?_;refine ⟨?_, rfl⟩;unfold classF;repeat' split
   all_goals first | rfl | (exfalso; omega)
  ·
   refine lssB (fun c18 => ?_) (fun c18 => ?_)
   ·
    refine ze rfl ?_;refine ⟨?_, rfl⟩;unfold classF;repeat' split
    all_goals first | rfl | (exfalso; omega)
   ·
    refine eqlB (fun c20 => ?_) (fun c20 => ?_)
    ·
     refine ze rfl ?_;refine ⟨?_, rfl⟩;unfold classF;repeat' split
     all_goals first | rfl | (exfalso; omega)
    ·
     refine ze rfl ?_;refine ⟨?_, rfl⟩;unfold classF;repeat' split
     all_goals first | rfl | (exfalso; omega)
theorem ref_vcanon {c : World} {h : GH} {L : Own} {b : Nat} (hb : b < 18446744073709551616) :
 Fun Tryz.prog c 230 #[.int .u64 (b : Int)] h L (fun u _ L' => u = (.int .u64 (canonF b : Nat)) ∧ L = L') := by
 refine zA (N := 7) (args := [.int .u64 (b : Int)]) Tryz.func230 ?_;refine qc (ref_vclass hb) ?_;rintro v4 h2 L_ le1 ⟨rfl, rfl⟩;refine eqlB (fun c5 => ?_) (fun c5 => ?_)
 ·
  refine ze rfl ?_;have h1 : classF b = 5 := by omega
  exact ⟨by unfold canonF; rw [if_pos h1]; rfl, rfl⟩
 ·
  refine ze rfl ?_;have h1 : ¬ classF b = 5 := by omega
  exact ⟨by unfold canonF; rw [if_neg h1], rfl⟩
theorem ref_printable {c : World} {h : GH} {L : Own} {s : ByteArray} (hsm : s.size ≤ 9223372036854775807) :
 Fun Tryz.prog c 231 #[.string s] h L (fun u _ L' => u = (.bool (okBytes 32 s)) ∧ L = L') := by
 refine zA (N := 20) (args := [.string s]) Tryz.func231 ?_;refine qL (fun s0 nn s' h' L' => ∃ (k : Nat), s' = [(3, .int .i64 k)] ++ qR s0 [0] ∧ nn = s.size - k ∧ L = L' ∧ k ≤ s.size ∧ ∀ (j : Nat) (b : UInt8), j < k → s.data.toList[j]? = some b → 32 ≤ b.toNat ∧ b.toNat ≤ 126) ⟨0, rfl, rfl, rfl, ?_⟩ zg zl zn ?_
 · exact ⟨Nat.zero_le _, fun j _ hj => absurd hj (Nat.not_lt_zero j)⟩
 rintro nn s1 h1 L_ le2 ⟨k, rfl, rfl, rfl, hk, hall⟩;refine len_str un_9 ?_;refine lssB (fun c7 => ?_) (fun c7 => ?_)
 ·
  have hkl : k < s.data.toList.length := by simp; omega
  obtain ⟨b, hb⟩ : ∃ b, s.data.toList[k]? = some b := ⟨_, List.getElem?_eq_getElem hkl⟩;refine index_str (k := k) un_9 rfl hb ?_;refine lssB (fun c13 => ?_) (fun c13 => ?_)
  ·
   refine ze rfl ?_;exact ⟨by rw [okBytes_false hb af], rfl⟩
  ·
   refine index_str (k := k) un_9 rfl hb ?_;refine gtrB (fun c18 => ?_) (fun c18 => ?_)
   ·
    refine ze rfl ?_;exact ⟨by rw [okBytes_false hb af], rfl⟩
   ·
    refine qA ak ?_
    exact back (m := _) ⟨k + 1, rfl, rfl, rfl, by omega, fun j b2 hj hb2 => by
     rcases Nat.lt_or_ge j k with h5 | h5
     · exact hall j b2 h5 hb2
     · have : j = k := by omega
       subst this; rw [hb] at hb2; cases hb2; omega⟩ af zg zl zn
 ·
  refine ze rfl ?_;have hk2 : k = s.size := by omega
  subst hk2;exact ⟨by rw [okBytes_true fun j b hj => hall j b (by have := (List.getElem?_eq_some_iff.1 hj).1; simpa using this) hj], rfl⟩
theorem ref_name {c : World} {h : GH} {L : Own} {s : ByteArray} (hsm : s.size ≤ 9223372036854775807) :
 Fun Tryz.prog c 204 #[.string s] h L (fun u _ L' => u = (.bool (keyOk s)) ∧ L = L') := by
 refine zA (N := 28) (args := [.string s]) Tryz.func204 ?_;refine len_str un_9 ?_;refine lssB (fun c6 => ?_) (fun c6 => ?_)
 ·
  refine ze rfl ?_;have h1 : ¬ 1 ≤ s.size := by omega
  exact ⟨by simp [keyOk, h1], rfl⟩
 ·
  refine len_str un_9 ?_;refine gtrB (fun c10 => ?_) (fun c10 => ?_)
  ·
   refine ze rfl ?_;have h1 : ¬ s.size ≤ 20 := by omega
   exact ⟨by simp [keyOk, h1], rfl⟩
  ·
   refine qL (fun s0 nn s' h' L' => ∃ (k : Nat), s' = [(3, .int .i64 k)] ++ qR s0 [0] ∧ nn = s.size - k ∧ L = L' ∧ k ≤ s.size ∧ ∀ (j : Nat) (b : UInt8), j < k → s.data.toList[j]? = some b → 33 ≤ b.toNat ∧ b.toNat ≤ 126) ⟨0, rfl, rfl, rfl, ?_⟩ zg zl zn ?_
   · exact ⟨Nat.zero_le _, fun j _ hj => absurd hj (Nat.not_lt_zero j)⟩
   rintro nn s1 h1 L_ le2 ⟨k, rfl, rfl, rfl, hk, hall⟩;refine len_str un_9 ?_;refine lssB (fun c15 => ?_) (fun c15 => ?_)
   ·
    have hkl : k < s.data.toList.length := by simp; omega
    obtain ⟨b, hb⟩ : ∃ b, s.data.toList[k]? = some b := ⟨_, List.getElem?_eq_getElem hkl⟩;refine index_str (k := k) un_9 rfl hb ?_;refine lssB (fun c21 => ?_) (fun c21 => ?_)
    ·
     refine ze rfl ?_;exact ⟨by simp [keyOk, okBytes_false (lo := 33) hb af], rfl⟩
    ·
     refine index_str (k := k) un_9 rfl hb ?_;refine gtrB (fun c26 => ?_) (fun c26 => ?_)
     ·
      refine ze rfl ?_;exact ⟨by simp [keyOk, okBytes_false (lo := 33) hb af], rfl⟩
     ·
      refine qA ak ?_
      exact back (m := _) ⟨k + 1, rfl, rfl, rfl, by omega, fun j b2 hj hb2 => by
       rcases Nat.lt_or_ge j k with h5 | h5
       · exact hall j b2 h5 hb2
       · have : j = k := by omega
         subst this; rw [hb] at hb2; cases hb2; omega⟩ af zg zl zn
   ·
    refine ze rfl ?_;have hk2 : k = s.size := by omega
    subst hk2;have hok := okBytes_true (lo := 33) fun j b hj => hall j b (by have := (List.getElem?_eq_some_iff.1 hj).1; simpa using this) hj
    have h1 : 1 ≤ s.size ∧ s.size ≤ 20 := by omega
    exact ⟨by simp [keyOk, hok, h1], rfl⟩
theorem ref_vcheck {c : World} {h : GH} {L : Own} {v : Val} (hv : ValWF v) :
 Fun Tryz.prog c 205 #[.agg (valC v).toArray] h L (fun u _ L' => u = (.int .i64 (if valOk v then 0 else 8)) ∧ L = L') := by
 refine zA (N := 54) (args := [.agg (valC v).toArray]) Tryz.func205 ?_;refine box_at rfl ?_;intro p1 h2 le1 hp1;refine qf fi_55_0 aa ?_;intro p3 hp3;refine ql sc_5 aa ?_;refine eqlB (fun c6 => ?_) (fun c6 => ?_)
 ·
  refine qf fi_55_2 aa ?_;intro p7 hp7;refine ql sc_52 aa ?_;refine eqlB (fun c9 => ?_) (fun c9 => ?_)
  ·
   refine qf fi_55_3 aa ?_;intro p11 hp11;refine ql sc_9 aa ?_;refine eqlS (fun c13 => ?_) (fun c13 => ?_)
   ·
    refine ze rfl ?_
    have hy : valOk v = true := valOk_yes (want1 c6) (by
     obtain ⟨vk, vn, vb, vt⟩ := v;simp only at *;have e1 : vk = 1 := by omega
     subst e1;have e2 : vb = 0 := by omega
     subst e2;subst c13;rfl) af
    exact ⟨by rw [hy]; rfl, rfl⟩
   ·
    refine ze rfl ?_;have hno : valOk v = false := valOk_no (want1 c6) (fun e => c13 (congrArg Val.text e));exact ⟨by rw [hno]; rfl, rfl⟩
  ·
   refine ze rfl ?_;have hno : valOk v = false := valOk_no (want1 c6) (fun e => c9 (by have := congrArg Val.bits e; simp only at this; omega));exact ⟨by rw [hno]; rfl, rfl⟩
 ·
  refine eqlB (fun c16 => ?_) (fun c16 => ?_)
  ·
   refine DoDraw.intro mixed [0, 1, 2, 3, 4, 5, 6, 7, 8, 9, 10, 12, 13, 11, 14, 15] [] ae am ?_;refine qf fi_55_1 aa ?_;intro p17 hp17;refine ql sc_2 aa ?_;refine eqlB (fun c19 => ?_) (fun c19 => ?_)
   ·
    refine qf fi_55_3 aa ?_;intro p21 hp21;refine ql sc_9 aa ?_;refine eqlS (fun c23 => ?_) (fun c23 => ?_)
    ·
     refine qf fi_55_2 aa ?_;intro p26 hp26;refine ql sc_52 aa ?_;refine qf fi_55_2 aa ?_;intro p29 hp29;refine ql sc_52 aa ?_;refine qc (ref_vcanon hv.bits) ?_;rintro v28 h4 L_ le3 ⟨rfl, rfl⟩;refine ⟨am, ?_⟩;refine eqlB (fun c31 => ?_) (fun c31 => ?_)
     ·
      refine ⟨_, Fr.Sub.refl _, ?_⟩;refine ze rfl ?_
      have hy : valOk v = true := valOk_yes (want2 c16) (by
       obtain ⟨vk, vn, vb, vt⟩ := v;simp only at *;have e1 : vk = 2 := by omega
       subst e1;subst c19;have e2 : canonF vb = vb := by omega
       subst c23;rw [e2]) af
      exact ⟨by rw [hy]; rfl, rfl⟩
     ·
      refine ⟨_, Fr.Sub.refl _, ?_⟩;refine ze rfl ?_;have hno : valOk v = false := valOk_no (want2 c16) (fun e => c31 (by have := congrArg Val.bits e; simp only at this; omega));exact ⟨by rw [hno]; rfl, rfl⟩
    ·
     refine ⟨_, Fr.Sub.refl _, ?_⟩;refine ze rfl ?_;have hno : valOk v = false := valOk_no (want2 c16) (fun e => c23 (congrArg Val.text e));exact ⟨by rw [hno]; rfl, rfl⟩
   ·
    refine ⟨_, Fr.Sub.refl _, ?_⟩;refine ze rfl ?_;have hno : valOk v = false := valOk_no (want2 c16) (fun e => c19 (congrArg Val.num e));exact ⟨by rw [hno]; rfl, rfl⟩
  ·
   refine eqlB (fun c34 => ?_) (fun c34 => ?_)
   ·
    refine qf fi_55_1 aa ?_;intro p35 hp35;refine ql sc_2 aa ?_;refine eqlB (fun c37 => ?_) (fun c37 => ?_)
    ·
     refine qf fi_55_2 aa ?_;intro p39 hp39;refine ql sc_52 aa ?_;refine eqlB (fun c41 => ?_) (fun c41 => ?_)
     ·
      refine qf fi_55_3 aa ?_;intro p44 hp44;refine ql sc_9 aa ?_;refine len_str un_9 ?_;refine leqB (fun c47 => ?_) (fun c47 => ?_)
      ·
       refine qf fi_55_3 aa ?_;intro p50 hp50;refine ql sc_9 aa ?_;refine qc (ref_printable hv.text) ?_;rintro v52 h6 L_ le5 ⟨rfl, rfl⟩;cases hpr : okBytes 32 v.text
       ·
        refine ze rfl ?_;have hto : textOk v.text = false := by simp [textOk, hpr]
        have hno : valOk v = false := valOk_no (want3F c34 hto) (fun e => by have := congrArg Val.kind e; simp only [val0] at this; omega);exact ⟨by rw [hno]; rfl, rfl⟩
       ·
        refine ze rfl ?_
        have hto : textOk v.text = true := by
         have h1 : v.text.size ≤ 30 := by omega
         simp [textOk, h1, hpr]
        have hy : valOk v = true := valOk_yes (want3 c34 hto) (by
         obtain ⟨vk, vn, vb, vt⟩ := v;simp only at *;have e1 : vk = 3 := by omega
         subst e1;subst c37;have e2 : vb = 0 := by omega
         subst e2;rfl) af
        exact ⟨by rw [hy]; rfl, rfl⟩
      ·
       refine ze rfl ?_
       have hto : textOk v.text = false := by
        have h1 : ¬ v.text.size ≤ 30 := by omega
        simp [textOk, h1]
       have hno : valOk v = false := valOk_no (want3F c34 hto) (fun e => by have := congrArg Val.kind e; simp only [val0] at this; omega);exact ⟨by rw [hno]; rfl, rfl⟩
     ·
      refine ze rfl ?_;cases hto : textOk v.text
      · have hno : valOk v = false := valOk_no (want3F c34 hto) (fun e => by have := congrArg Val.kind e; simp only [val0] at this; omega)
        exact ⟨by rw [hno]; rfl, rfl⟩
      · have hno : valOk v = false := valOk_no (want3 c34 hto) (fun e => c41 (by have := congrArg Val.bits e; simp only at this; omega))
        exact ⟨by rw [hno]; rfl, rfl⟩
    ·
     refine ze rfl ?_;cases hto : textOk v.text
     · have hno : valOk v = false := valOk_no (want3F c34 hto) (fun e => by have := congrArg Val.kind e; simp only [val0] at this; omega)
       exact ⟨by rw [hno]; rfl, rfl⟩
     · have hno : valOk v = false := valOk_no (want3 c34 hto) (fun e => c37 (congrArg Val.num e))
       exact ⟨by rw [hno]; rfl, rfl⟩
   ·
    refine ze rfl ?_
    have hno : valOk v = false := by
     cases hx : valOk v with
     | false => rfl
     | true => rcases valOk_kind hx with h5 | h5 | h5 <;> omega
    exact ⟨by rw [hno]; rfl, rfl⟩
end Go.Brd
namespace Go.Brd
open Go Go.Brd Go.Proofs
set_option linter.unusedVariables false
theorem act_eq {a : Act} (h1 : a.kind = 1) (h2 : a.key = ⟨#[]⟩) (h3 : a.val = val0) : a = act0 := by
 obtain ⟨k, ky, v⟩ := a;simp only at h1 h2 h3;subst h1; subst h2; subst h3; rfl
theorem ref_checkact {c : World} {h : GH} {L : Own} {a : Act} (ha : ActWF a) :
 Fun Tryz.prog c 156 #[.agg (actC a).toArray] h L (fun u _ L' => u = (.int .i64 (if actOk a then 0 else 8)) ∧ L = L') := by
 refine zA (N := 38) (args := [.agg (actC a).toArray]) Tryz.func156 ?_;refine box_at rfl ?_;intro p1 h2 le1 hp1;refine qf fi_57_2 aa ?_;intro p4 hp4;refine qX ag_55 aa ag ?_;refine build_struct zc_55 pl_55 Parts.nil rfl ?_;refine eqlF sh_55 ia_55 ef_55 rfl rfl (fun c7 => ?_) (fun c7 => ?_)
 ·
  refine qf fi_57_0 aa ?_;intro p8 hp8;refine ql sc_5 aa ?_;refine eqlB (fun c11 => ?_) (fun c11 => ?_)
  ·
   refine qf fi_57_1 aa ?_;intro p12 hp12;refine ql sc_9 aa ?_;refine eqlS (fun c14 => ?_) (fun c14 => ?_)
   ·
    refine ze rfl ?_
    have h1 : actOk a = true := by
     rw [actOk_def];have hv0 : a.val = val0 := valC_inj (v := a.val) (u := val0) c7;have k1 : a.kind = 1 := by omega
     rw [if_pos k1];exact decide_eq_true (act_eq k1 c14 hv0)
    exact ⟨by rw [h1]; rfl, rfl⟩
   ·
    refine ze rfl ?_
    have h1 : actOk a = false := by
     rw [actOk_def];have hk : ¬ a.key = ⟨#[]⟩ := c14;have k1 : a.kind = 1 := by omega
     rw [if_pos k1];exact decide_eq_false (fun e => hk (by rw [e]; rfl))
    exact ⟨by rw [h1]; rfl, rfl⟩
  ·
   refine eqlB (fun c19 => ?_) (fun c19 => ?_)
   ·
    refine qf fi_57_1 aa ?_;intro p21 hp21;refine ql sc_9 aa ?_;refine qc (ref_name ha.key) ?_;rintro v23 h4 L_ le3 ⟨rfl, rfl⟩;cases hko : keyOk a.key
    ·
     refine ze rfl ?_
     have h1 : actOk a = false := by
      rw [actOk_def];have k1 : ¬ a.kind = 1 := by omega
      have k2 : a.kind = 2 ∨ a.kind = 3 := by omega
      rw [if_neg k1, if_pos k2, hko];rfl
     exact ⟨by rw [h1]; rfl, rfl⟩
    ·
     refine ze rfl ?_
     have h1 : actOk a = true := by
      rw [actOk_def];have hv0 : a.val = val0 := valC_inj (v := a.val) (u := val0) c7;have k1 : ¬ a.kind = 1 := by omega
      have k2 : a.kind = 2 ∨ a.kind = 3 := by omega
      rw [if_neg k1, if_pos k2, hko];rw [decide_eq_true hv0]; rfl
     exact ⟨by rw [h1]; rfl, rfl⟩
   ·
    refine eqlB (fun c20 => ?_) (fun c20 => ?_)
    ·
     refine qf fi_57_1 aa ?_;intro p21 hp21;refine ql sc_9 aa ?_;refine qc (ref_name ha.key) ?_;rintro v23 h6 L_ le5 ⟨rfl, rfl⟩;cases hko : keyOk a.key
     ·
      refine ze rfl ?_
      have h1 : actOk a = false := by
       rw [actOk_def];have k1 : ¬ a.kind = 1 := by omega
       have k2 : a.kind = 2 ∨ a.kind = 3 := by omega
       rw [if_neg k1, if_pos k2, hko];rfl
      exact ⟨by rw [h1]; rfl, rfl⟩
     ·
      refine ze rfl ?_
      have h1 : actOk a = true := by
       rw [actOk_def];have hv0 : a.val = val0 := valC_inj (v := a.val) (u := val0) c7;have k1 : ¬ a.kind = 1 := by omega
       have k2 : a.kind = 2 ∨ a.kind = 3 := by omega
       rw [if_neg k1, if_pos k2, hko];rw [decide_eq_true hv0]; rfl
      exact ⟨by rw [h1]; rfl, rfl⟩
    ·
     refine eqlB (fun c28 => ?_) (fun c28 => ?_)
     ·
      refine qf fi_57_1 aa ?_;intro p29 hp29;refine ql sc_9 aa ?_;refine qc (ref_name ha.key) ?_;rintro v31 h8 L_ le7 ⟨rfl, rfl⟩;replace hp1 := hp1.mono le7;cases hko : keyOk a.key
      ·
       refine ze rfl ?_
       have h1 : actOk a = false := by
        rw [actOk_def];have k1 : ¬ a.kind = 1 := by omega
        have k2 : ¬ (a.kind = 2 ∨ a.kind = 3) := by omega
        have k4 : a.kind = 4 := by omega
        rw [if_neg k1, if_neg k2, if_pos k4, hko];rfl
       exact ⟨by rw [h1]; rfl, rfl⟩
      ·
       refine qf fi_57_2 aa ?_;intro p33 hp33;refine qX ag_55 aa ag ?_;refine qc (ref_vcheck (v := a.val) ha.val) ?_;rintro v35 h10 L_ le9 ⟨rfl, rfl⟩;refine eqlB (fun c36 => ?_) (fun c36 => ?_)
       ·
        refine ze rfl ?_
        have h1 : actOk a = true := by
         rw [actOk_def];have k1 : ¬ a.kind = 1 := by omega
         have k2 : ¬ (a.kind = 2 ∨ a.kind = 3) := by omega
         have k4 : a.kind = 4 := by omega
         rw [if_neg k1, if_neg k2, if_pos k4, hko];cases hx : valOk a.val
         · rw [hx] at c36; cases c36
         · rfl
        exact ⟨by rw [h1]; rfl, rfl⟩
       ·
        refine ze rfl ?_
        have h1 : actOk a = false := by
         rw [actOk_def];have k1 : ¬ a.kind = 1 := by omega
         have k2 : ¬ (a.kind = 2 ∨ a.kind = 3) := by omega
         have k4 : a.kind = 4 := by omega
         rw [if_neg k1, if_neg k2, if_pos k4, hko];cases hx : valOk a.val
         · rfl
         · rw [hx] at c36; exact absurd rfl c36
        exact ⟨by rw [h1]; rfl, rfl⟩
     ·
      refine ze rfl ?_
      have h1 : actOk a = false := by
       rw [actOk_def];have k1 : ¬ a.kind = 1 := by omega
       have k2 : ¬ (a.kind = 2 ∨ a.kind = 3) := by omega
       have k4 : ¬ a.kind = 4 := by omega
       rw [if_neg k1, if_neg k2, if_neg k4]
      exact ⟨by rw [h1]; rfl, rfl⟩
 ·
  refine qf fi_57_0 aa ?_;intro p8 hp8;refine ql sc_5 aa ?_;refine eqlB (fun c11 => ?_) (fun c11 => ?_)
  ·
   refine qf fi_57_1 aa ?_;intro p12 hp12;refine ql sc_9 aa ?_;refine eqlS (fun c14 => ?_) (fun c14 => ?_)
   ·
    refine ze rfl ?_
    have h1 : actOk a = false := by
     rw [actOk_def];have hv0 : ¬ a.val = val0 := fun e => c7 (show valC a.val = valC val0 by rw [e])
     have k1 : a.kind = 1 := by omega
     rw [if_pos k1];exact decide_eq_false (fun e => hv0 (by rw [e]; rfl))
    exact ⟨by rw [h1]; rfl, rfl⟩
   ·
    refine ze rfl ?_
    have h1 : actOk a = false := by
     rw [actOk_def];have hk : ¬ a.key = ⟨#[]⟩ := c14;have k1 : a.kind = 1 := by omega
     rw [if_pos k1];exact decide_eq_false (fun e => hk (by rw [e]; rfl))
    exact ⟨by rw [h1]; rfl, rfl⟩
  ·
   refine eqlB (fun c19 => ?_) (fun c19 => ?_)
   ·
    refine qf fi_57_1 aa ?_;intro p21 hp21;refine ql sc_9 aa ?_;refine qc (ref_name ha.key) ?_;rintro v23 h12 L_ le11 ⟨rfl, rfl⟩;cases hko : keyOk a.key
    ·
     refine ze rfl ?_
     have h1 : actOk a = false := by
      rw [actOk_def];have k1 : ¬ a.kind = 1 := by omega
      have k2 : a.kind = 2 ∨ a.kind = 3 := by omega
      rw [if_neg k1, if_pos k2, hko];rfl
     exact ⟨by rw [h1]; rfl, rfl⟩
    ·
     refine ze rfl ?_
     have h1 : actOk a = false := by
      rw [actOk_def];have hv0 : ¬ a.val = val0 := fun e => c7 (show valC a.val = valC val0 by rw [e])
      have k1 : ¬ a.kind = 1 := by omega
      have k2 : a.kind = 2 ∨ a.kind = 3 := by omega
      rw [if_neg k1, if_pos k2, hko];rw [decide_eq_false hv0]; rfl
     exact ⟨by rw [h1]; rfl, rfl⟩
   ·
    refine eqlB (fun c20 => ?_) (fun c20 => ?_)
    ·
     refine qf fi_57_1 aa ?_;intro p21 hp21;refine ql sc_9 aa ?_;refine qc (ref_name ha.key) ?_;rintro v23 h14 L_ le13 ⟨rfl, rfl⟩;cases hko : keyOk a.key
     ·
      refine ze rfl ?_
      have h1 : actOk a = false := by
       rw [actOk_def];have k1 : ¬ a.kind = 1 := by omega
       have k2 : a.kind = 2 ∨ a.kind = 3 := by omega
       rw [if_neg k1, if_pos k2, hko];rfl
      exact ⟨by rw [h1]; rfl, rfl⟩
     ·
      refine ze rfl ?_
      have h1 : actOk a = false := by
       rw [actOk_def];have hv0 : ¬ a.val = val0 := fun e => c7 (show valC a.val = valC val0 by rw [e])
       have k1 : ¬ a.kind = 1 := by omega
       have k2 : a.kind = 2 ∨ a.kind = 3 := by omega
       rw [if_neg k1, if_pos k2, hko];rw [decide_eq_false hv0]; rfl
      exact ⟨by rw [h1]; rfl, rfl⟩
    ·
     refine eqlB (fun c28 => ?_) (fun c28 => ?_)
     ·
      refine qf fi_57_1 aa ?_;intro p29 hp29;refine ql sc_9 aa ?_;refine qc (ref_name ha.key) ?_;rintro v31 h16 L_ le15 ⟨rfl, rfl⟩;replace hp1 := hp1.mono le15;cases hko : keyOk a.key
      ·
       refine ze rfl ?_
       have h1 : actOk a = false := by
        rw [actOk_def];have k1 : ¬ a.kind = 1 := by omega
        have k2 : ¬ (a.kind = 2 ∨ a.kind = 3) := by omega
        have k4 : a.kind = 4 := by omega
        rw [if_neg k1, if_neg k2, if_pos k4, hko];rfl
       exact ⟨by rw [h1]; rfl, rfl⟩
      ·
       refine qf fi_57_2 aa ?_;intro p33 hp33;refine qX ag_55 aa ag ?_;refine qc (ref_vcheck (v := a.val) ha.val) ?_;rintro v35 h18 L_ le17 ⟨rfl, rfl⟩;refine eqlB (fun c36 => ?_) (fun c36 => ?_)
       ·
        refine ze rfl ?_
        have h1 : actOk a = true := by
         rw [actOk_def];have k1 : ¬ a.kind = 1 := by omega
         have k2 : ¬ (a.kind = 2 ∨ a.kind = 3) := by omega
         have k4 : a.kind = 4 := by omega
         rw [if_neg k1, if_neg k2, if_pos k4, hko];cases hx : valOk a.val
         · rw [hx] at c36; cases c36
         · rfl
        exact ⟨by rw [h1]; rfl, rfl⟩
       ·
        refine ze rfl ?_
        have h1 : actOk a = false := by
         rw [actOk_def];have k1 : ¬ a.kind = 1 := by omega
         have k2 : ¬ (a.kind = 2 ∨ a.kind = 3) := by omega
         have k4 : a.kind = 4 := by omega
         rw [if_neg k1, if_neg k2, if_pos k4, hko];cases hx : valOk a.val
         · rfl
         · rw [hx] at c36; exact absurd rfl c36
        exact ⟨by rw [h1]; rfl, rfl⟩
     ·
      refine ze rfl ?_
      have h1 : actOk a = false := by
       rw [actOk_def];have k1 : ¬ a.kind = 1 := by omega
       have k2 : ¬ (a.kind = 2 ∨ a.kind = 3) := by omega
       have k4 : ¬ a.kind = 4 := by omega
       rw [if_neg k1, if_neg k2, if_neg k4]
      exact ⟨by rw [h1]; rfl, rfl⟩
end Go.Brd
namespace Go.Brd
open Go Go.Brd Go.Proofs
set_option linter.unusedVariables false
theorem ref_check6 {c : World} {h : GH} {L : Own} {o : Op} {pv : Value} (hw : OpWF o) (hp : RIds h pv o.preds) :
 Fun Tryz.prog c 103 #[opV o pv] h L (fun u _ L' => (∃ e : Int, u = .int .i64 e ∧ (e = 0 ↔ opOk o = true)) ∧ L = L') := by
 refine zS (N := 40) (args := [.agg (opC2 o pv).toArray]) Tryz.func103 ?_;refine qg (box_at rfl ?_);intro p1 h2 le1 hp1;replace hp := hp.mono le1;refine qg (qd ?_);refine qg (qf fi_61_1 aa ?_);intro p3 hp3;refine qg (ql sc_22 aa ?_);refine qg (qm sl_22 aa ?_);refine qg (gtrB (fun c6 => ?_) (fun c6 => ?_))
 ·
  refine qd ?_;refine qg (qd ?_);refine ze rfl ?_
  have hno : opOk o = false := by
   cases hx : opOk o with
   | false => rfl
   | true => have hq := opOk_iff.1 hx; exfalso; have := hq.preds; omega
  exact ⟨⟨_, rfl, by rw [hno]; decide⟩, rfl⟩
 ·
  refine qd ?_;refine qg (qf fi_61_1 aa ?_);intro p7 hp7;refine qg (ql sc_22 aa ?_);refine qg (qc (ref_rising hp) ?_);rintro v9 h4 L_ le3 ⟨rfl, rfl⟩;replace hp1 := hp1.mono le3;obtain ⟨br, hris⟩ : ∃ b, risB o.preds = b := ⟨_, rfl⟩;rw [hris];cases br
  ·
   refine qg (not_ff ?_);refine qd ?_;refine qg (qd ?_);refine ze rfl ?_
   have hno : opOk o = false := by
    cases hx : opOk o with
    | false => rfl
    | true => have hq := opOk_iff.1 hx; exfalso; have := hq.ris; rw [hris] at this; cases this
   exact ⟨⟨_, rfl, by rw [hno]; decide⟩, rfl⟩
  ·
   refine qg (not_tt ?_);refine qd ?_;refine qg (qf fi_61_0 aa ?_);intro p11 hp11;refine qg (ql sc_53 aa ?_);refine qg (qc (ref_is hw.author) ?_);rintro v13 h6 L_ le5 ⟨rfl, rfl⟩;replace hp1 := hp1.mono le5;obtain ⟨bg, hg⟩ : ∃ b, isG o.author = b := ⟨_, rfl⟩;rw [hg];cases bg
   ·
    refine qg (not_ff ?_);refine qg (qk rfl rfl ?_);refine qk rfl rfl ?_;refine qk rfl rfl ?_;refine qg (qg (qk rfl rfl ?_));refine qk rfl rfl ?_;refine qk rfl rfl ?_;refine qk rfl rfl ?_;refine qg (qg (qk rfl rfl ?_));refine qk rfl rfl ?_;refine qk rfl rfl ?_;refine qk rfl rfl ?_;refine qk rfl rfl ?_;refine qg (qg (qk rfl rfl ?_));refine qk rfl rfl ?_;refine qk rfl rfl ?_;refine qk rfl rfl ?_;refine qk rfl rfl ?_;refine qg (qd ?_);refine qg (qd ?_);refine ze rfl ?_
    have hno : opOk o = false := by
     cases hx : opOk o with
     | false => rfl
     | true => have hq := opOk_iff.1 hx; exfalso; have := hq.author; rw [hg] at this; cases this
    exact ⟨⟨_, rfl, by rw [hno]; decide⟩, rfl⟩
   ·
    refine qg (not_tt ?_);refine qg (kG rfl rfl ?_);refine qf fi_61_2 aa ?_;intro p16 hp16;refine kG rfl rfl ?_;refine ql sc_52 aa ?_;refine kG rfl rfl ?_;refine gtrB (fun c18 => ?_) (fun c18 => ?_)
    ·
     refine qg (qg (qk rfl rfl ?_));refine qk rfl rfl ?_;refine qk rfl rfl ?_;refine qk rfl rfl ?_;refine qg (qg (qk rfl rfl ?_));refine qk rfl rfl ?_;refine qk rfl rfl ?_;refine qk rfl rfl ?_;refine qk rfl rfl ?_;refine qg (qg (qk rfl rfl ?_));refine qk rfl rfl ?_;refine qk rfl rfl ?_;refine qk rfl rfl ?_;refine qk rfl rfl ?_;refine qg (qd ?_);refine qg (qd ?_);refine ze rfl ?_
     have hno : opOk o = false := by
      cases hx : opOk o with
      | false => rfl
      | true => have hq := opOk_iff.1 hx; exfalso; have := hq.stamp; omega
     exact ⟨⟨_, rfl, by rw [hno]; decide⟩, rfl⟩
    ·
     refine qg (qg (kG rfl rfl ?_));refine qf fi_61_3 aa ?_;intro p21 hp21;refine kG rfl rfl ?_;refine load_aggT ag_57 aa ab ?_;refine kG rfl rfl ?_;refine qc (ref_checkact (a := o.act) hw.act) ?_;rintro v23 h8 L_ le7 ⟨rfl, rfl⟩;replace hp1 := hp1.mono le7;refine kG rfl rfl ?_;refine neqB (fun c24 => ?_) (fun c24 => ?_)
     ·
      refine qg (qg (qk rfl rfl ?_));refine qk rfl rfl ?_;refine qk rfl rfl ?_;refine qk rfl rfl ?_;refine qk rfl rfl ?_;refine qg (qg (qk rfl rfl ?_));refine qk rfl rfl ?_;refine qk rfl rfl ?_;refine qk rfl rfl ?_;refine qk rfl rfl ?_;refine qg (qd ?_);refine qg (qd ?_);refine ze rfl ?_
      have hno : opOk o = false := by
       cases hx : opOk o with
       | false => rfl
       | true => have hq := opOk_iff.1 hx; exfalso; have := hq.act; rw [if_pos this] at c24; exact c24 rfl
      exact ⟨⟨_, rfl, by rw [hno]; decide⟩, rfl⟩
     ·
      refine qg (qg (kG rfl rfl ?_));refine qf fi_61_4 aa ?_;intro p27 hp27;refine kG rfl rfl ?_;refine qf fi_59_0 aa ?_;intro p28 hp28;refine kG rfl rfl ?_;refine ql sc_53 aa ?_;refine kG rfl rfl ?_;refine qc (ref_exponent (a := o.e) hw.e) ?_;rintro v30 h10 L_ le9 ⟨rfl, rfl⟩;replace hp1 := hp1.mono le9;obtain ⟨be, hbe⟩ : ∃ b, decide (o.e < 500000003) = b := ⟨_, rfl⟩;rw [hbe];cases be
      ·
       refine kG rfl rfl ?_;refine not_ff ?_;refine qg (qg (qk rfl rfl ?_));refine qk rfl rfl ?_;refine qk rfl rfl ?_;refine qk rfl rfl ?_;refine qk rfl rfl ?_;refine qg (qd ?_);refine qg (qd ?_);refine ze rfl ?_
       have hno : opOk o = false := by
        cases hx : opOk o with
        | false => rfl
        | true => have hq := opOk_iff.1 hx; exfalso; have := hq.e; have := of_decide_eq_false hbe; omega
       exact ⟨⟨_, rfl, by rw [hno]; decide⟩, rfl⟩
      ·
       refine kG rfl rfl ?_;refine not_tt ?_;refine qg (qg (kG rfl rfl ?_));refine qf fi_61_4 aa ?_;intro p34 hp34;refine kG rfl rfl ?_;refine qf fi_59_1 aa ?_;intro p35 hp35;refine kG rfl rfl ?_;refine ql sc_53 aa ?_;refine kG rfl rfl ?_;refine qc (ref_exponent (a := o.s) hw.s) ?_;rintro v37 h12 L_ le11 ⟨rfl, rfl⟩;obtain ⟨bs, hbs⟩ : ∃ b, decide (o.s < 500000003) = b := ⟨_, rfl⟩;rw [hbs];cases bs
       ·
        refine kG rfl rfl ?_;refine not_ff ?_;refine qg (qd ?_);refine qg (qd ?_);refine ze rfl ?_
        have hno : opOk o = false := by
         cases hx : opOk o with
         | false => rfl
         | true => have hq := opOk_iff.1 hx; exfalso; have := hq.s; have := of_decide_eq_false hbs; omega
        exact ⟨⟨_, rfl, by rw [hno]; decide⟩, rfl⟩
       ·
        refine kG rfl rfl ?_;refine not_tt ?_;refine qg (qd ?_);refine qg (qd ?_);refine ze rfl ?_
        have hact : actOk o.act = true := by
         cases hx : actOk o.act with
         | true => rfl
         | false => rw [hx] at c24; cases c24
        have h8 := of_decide_eq_true hbe;have h9 := of_decide_eq_true hbs;have hy : opOk o = true := opOk_iff.2 ⟨by omega, hris, hg, by omega, h8, h9, hact⟩;exact ⟨⟨_, rfl, by rw [hy]; decide⟩, rfl⟩
end Go.Brd
namespace Go.Brd
open Go Go.Brd Go.Proofs
set_option linter.unusedVariables false
theorem it_5_53 : intT Tryz.prog 5 53 .u32 = true := by kernel_rfl
theorem td_set {α : Type} {A B : List α} {k : Nat} {x : α} (hA : A[k]? = some x) (hl : A.length = B.length) : (A.take k ++ B.drop k).set k x = A.take (k + 1) ++ B.drop (k + 1) := by
 have hk := (List.getElem?_eq_some_iff.1 hA).1;have e := (List.getElem?_eq_some_iff.1 hA).2;rw [List.set_append_right _ _ ar, List.length_take, Nat.min_eq_left af, Nat.sub_self, List.drop_eq_getElem_cons (by omega : k < B.length), List.set_cons_zero, List.take_add_one, hA];simp
theorem td_get {α : Type} {A B : List α} {k : Nat} (hk : k ≤ A.length) : (A.take k ++ B.drop k)[k]? = B[k]? := by
 rw [List.getElem?_append_right ar, List.length_take, Nat.min_eq_left hk, Nat.sub_self, List.getElem?_drop]; simp
def s8L (s : S8) : List Nat := [s.a, s.b, s.c, s.d, s.e, s.f, s.g, s.h]
theorem s8L_len (s : S8) : (s8L s).length = 8 := rfl
def u32v (n : Nat) : Value := .int .u32 n
theorem s8C_eq (s : S8) : s8C s = (s8L s).map u32v := rfl
theorem s8_at (s : S8) {k : Nat} (h : k < 8) : ∃ x, (s8L s)[k]? = some x := ⟨_, List.getElem?_eq_getElem h⟩
theorem s8_lt {s : S8} (h : s.Lt) {k x : Nat} (hx : (s8L s)[k]? = some x) : x < 4294967296 := by
 have := List.mem_of_getElem? hx;simp only [s8L, List.mem_cons, List.not_mem_nil, or_false] at this;rcases this with e | e | e | e | e | e | e | e <;> subst e
 · exact h.a
 · exact h.b
 · exact h.c
 · exact h.d
 · exact h.e
 · exact h.f
 · exact h.g
 · exact h.h
theorem add8_at {s t : S8} {k x y : Nat} (hx : (s8L s)[k]? = some x) (hy : (s8L t)[k]? = some y) : (s8L (add8 s t))[k]? = some ((x + y) % 4294967296) := by
 have hk := (List.getElem?_eq_some_iff.1 hx).1;have hk8 : k < 8 := hk;have : k = 0 ∨ k = 1 ∨ k = 2 ∨ k = 3 ∨ k = 4 ∨ k = 5 ∨ k = 6 ∨ k = 7 := by omega
 rcases this with e | e | e | e | e | e | e | e <;> subst e <;> (cases hx; cases hy; rfl)
theorem cells_td {A B : List Nat} {k x : Nat} (hA : A[k]? = some x) (hl : A.length = B.length) : ((A.take k ++ B.drop k).map u32v).set k (.int .u32 (x : Nat)) = (A.take (k + 1) ++ B.drop (k + 1)).map u32v := by
 rw [← td_set hA hl, List.map_set]; rfl
theorem shaW_succ (b : List UInt8) (k : Nat) : shaW b (k + 1) = shaW b k ++ [if k < 16 then be32 b k else wnext (shaW b k)] := rfl
set_option maxHeartbeats 2000000 in
theorem ref_ground {c : World} {h : GH} {L : Own} {s : S8} {v0 : Value} {b : List UInt8} (hs : s.Lt) (hb0 : RBytes h v0 b) (hb : 64 ≤ b.length):
 Fun Tryz.prog c 214 #[.agg (s8C s).toArray, v0] h L (fun u _ L' => u = .agg (s8C (ground s b)).toArray ∧ L = L') := by
 refine zS (N := 203) (args := [.agg (s8C s).toArray, v0]) Tryz.func214 ?_;refine qg (box_own rfl ?_);intro b2;refine qg (qa zc_211 ?_);intro b4;refine qd ?_;refine qg (qd ?_);refine qg (qd ?_);refine qL (fun s0 nn s' h' L' => ∃ (k : Nat) (v : Value) (N : Own), s' = [(5, v), (6, .int .i64 k)] ++ qR s0 [1, 2, 4] ∧ nn = 16 - k ∧ N ++ ((b4, .cells (List.replicate 8 (Value.int .u32 0)).toArray 211 (0, 0)) :: (b2, .cells (s8C s).toArray 211 (0, 0)) :: L) = L' ∧ k ≤ 16 ∧ OS 53 1 v ((shaW b k).map u32C) N) ⟨0, _, [], rfl, rfl, rfl, ?_⟩ zg zl zn ?_
 · exact ⟨Nat.zero_le _, OS.nil _ _⟩
 rintro nn s1 h1 L_ le2 ⟨k, v, N, rfl, rfl, rfl, hk, hv⟩;replace hb0 := hb0.mono le2;refine qg (qg (lssB (fun c23 => ?_) (fun c23 => ?_)))
 ·
  have hkl : k < 16 := by omega
  obtain ⟨x0, hx0⟩ : ∃ x, b[4 * k]? = some x := ⟨_, List.getElem?_eq_getElem af⟩;have hbb0 := x0.toNat_lt;obtain ⟨x1, hx1⟩ : ∃ x, b[4 * k + 1]? = some x := ⟨_, List.getElem?_eq_getElem af⟩;have hbb1 := x1.toNat_lt;obtain ⟨x2, hx2⟩ : ∃ x, b[4 * k + 2]? = some x := ⟨_, List.getElem?_eq_getElem af⟩;have hbb2 := x2.toNat_lt;obtain ⟨x3, hx3⟩ : ∃ x, b[4 * k + 3]? = some x := ⟨_, List.getElem?_eq_getElem af⟩;have hbb3 := x3.toNat_lt
  have hbe : be32 b k = ((x0.toNat * 256 + x1.toNat) * 256 + x2.toNat) * 256 + x3.toNat := by
   unfold be32 byt;simp only [List.getD_eq_getElem?_getD, hx0, hx1, hx2, hx3, Option.getD_some]
  refine qd ?_;refine qD mixed [] [0, 1, 2, 3, 4, 5, 6, 7, 8, 9, 10, 11, 12, 13, 14, 15, 16, 17, 18, 19, 20, 21, 22, 23, 24, 25, 26, 27, 28, 29, 30, 31, 32, 33, 34, 35, 36] [] ae sub_nil ?_;refine qr rfl rfl rfl (qr rfl rfl rfl (qr rfl rfl rfl (qr rfl rfl rfl (mul_i64 ak ?_))));refine qr rfl rfl rfl (qi (k := 4 * k) sl_109 aa af hx0 ?_);intro p30 r30 hl30 hp30;refine qr rfl rfl rfl (ql sc_5 aa ?_);refine qr rfl rfl rfl (conv_u32n (n := x0.toNat) it_5_53 af ?_);refine qr rfl rfl rfl (mul_u32n (b := 256) af ?_);refine qr rfl rfl rfl (qr rfl rfl rfl (qr rfl rfl rfl (mul_i64 ak ?_)));refine qr rfl rfl rfl (qA ak ?_);refine qr rfl rfl rfl (qi (k := 4 * k + 1) sl_109 aa af hx1 ?_);intro p38 r38 hl38 hp38;refine qr rfl rfl rfl (ql sc_5 aa ?_);refine qr rfl rfl rfl (conv_u32n (n := x1.toNat) it_5_53 af ?_);refine qr rfl rfl rfl (add_u32n af ?_);refine qr rfl rfl rfl (mul_u32n (b := 256) af ?_);refine qr rfl rfl rfl (qr rfl rfl rfl (qr rfl rfl rfl (mul_i64 ak ?_)));refine qr rfl rfl rfl (qA ak ?_);refine qr rfl rfl rfl (qi (k := 4 * k + 2) sl_109 aa af hx2 ?_);intro p47 r47 hl47 hp47;refine qr rfl rfl rfl (ql sc_5 aa ?_);refine qr rfl rfl rfl (conv_u32n (n := x2.toNat) it_5_53 af ?_);refine qr rfl rfl rfl (add_u32n af ?_);refine qr rfl rfl rfl (mul_u32n (b := 256) af ?_);refine qr rfl rfl rfl (qr rfl rfl rfl (qr rfl rfl rfl (mul_i64 ak ?_)));refine qr rfl rfl rfl (qA ak ?_);refine qr rfl rfl rfl (qi (k := 4 * k + 3) sl_109 aa af hx3 ?_);intro p56 r56 hl56 hp56;refine qr rfl rfl rfl (ql sc_5 aa ?_);refine qr rfl rfl rfl (conv_u32n (n := x3.toNat) it_5_53 af ?_);refine qr rfl rfl rfl (add_u32n af ?_);refine qj rfl rfl rfl ?_;refine qB sl_239 z_53 rfl ag ah aj ?_;intro v60 h4 le3 hv60;refine ⟨am, ?_⟩;refine qj rfl rfl rfl ?_;refine qp sl_239 sl_239 z_53 aa aa kR (by simp [shaW_len]; omega) ?_;intro v61 N61 hv61;refine ⟨_, kR.symm, ?_⟩;refine ⟨am, ?_⟩;refine qr rfl rfl rfl (qe zf ?_);refine qg (qg (qA ak ?_));refine qg (qd ?_);exact back (m := _) ⟨k + 1, _, N61, rfl, rfl, rfl, by omega, by rw [shaW_succ, if_pos hkl, hbe]; simpa [u32C] using hv61⟩ af zg zl zn
 ·
  refine qd ?_;refine qg (qd ?_);refine qL (fun s0 nn s' h' L' => ∃ (k : Nat) (v : Value) (N : Own), s' = [(5, v), (7, .int .i64 k)] ++ qR s0 [2, 4] ∧ nn = 64 - k ∧ N ++ ((b4, .cells (List.replicate 8 (Value.int .u32 0)).toArray 211 (0, 0)) :: (b2, .cells (s8C s).toArray 211 (0, 0)) :: L) = L' ∧ 16 ≤ k ∧ k ≤ 64 ∧ OS 53 1 v ((shaW b k).map u32C) N) ⟨16, _, _, rfl, rfl, rfl, ?_⟩ zg zl zn ?_
  · have hk16 : k = 16 := by omega
    subst hk16;exact ⟨Nat.le_refl _, by decide, hv⟩
  rintro nn s1 h5 L_ le6 ⟨k, v, N, rfl, rfl, rfl, hk0, hk, hv⟩;refine qg (qg (lssB (fun c63 => ?_) (fun c63 => ?_)))
  ·
   have hkl : k < 64 := by omega
   have hw15 := shaW_at b (n := k) (k := k - 15) af;have hl15 := shaW_getlt b (n := k) (k := k - 15) af
   generalize hq15 : (shaW b k).getD (k - 15) 0 = w15 at hw15 hl15
   have hw2 := shaW_at b (n := k) (k := k - 2) af;have hl2 := shaW_getlt b (n := k) (k := k - 2) af
   generalize hq2 : (shaW b k).getD (k - 2) 0 = w2 at hw2 hl2
   have hw16 := shaW_at b (n := k) (k := k - 16) af;have hl16 := shaW_getlt b (n := k) (k := k - 16) af
   generalize hq16 : (shaW b k).getD (k - 16) 0 = w16 at hw16 hl16
   have hw7 := shaW_at b (n := k) (k := k - 7) af;have hl7 := shaW_getlt b (n := k) (k := k - 7) af
   generalize hq7 : (shaW b k).getD (k - 7) 0 = w7 at hw7 hl7
   have hwl := shaW_len b k;refine qd ?_;refine qD mixed [] [0, 1, 2, 3, 4, 5, 6, 7, 8, 9, 10, 11] (N ++ []) ae (sub_app (fun e he => (List.mem_append_left _ he)) sub_nil) ?_;refine qr rfl rfl rfl (qr rfl rfl rfl (qr rfl rfl rfl (sub_i64 ak ?_)));refine qr rfl rfl rfl (index_os (k := k - 15) sl_239 aa ao (by first | omega | (simp; omega) | (simp [*]; done)) ?_);intro p69 hp69;refine qr rfl rfl rfl (load_os1 sc_53 aa aa (fun e he => (List.mem_append_left _ he)) (by first | assumption | exact map_get aa) an ?_);refine qr rfl rfl rfl (qr rfl rfl rfl (qr rfl rfl rfl (sub_i64 ak ?_)));refine qr rfl rfl rfl (index_os (k := k - 2) sl_239 aa ao (by first | omega | (simp; omega) | (simp [*]; done)) ?_);intro p74 hp74;refine qr rfl rfl rfl (load_os1 sc_53 aa aa (fun e he => (List.mem_append_left _ he)) (by first | assumption | exact map_get aa) an ?_);refine qr rfl rfl rfl (qr rfl rfl rfl (qe zf ?_));refine qD mixed [31] [0, 1, 2, 3, 4, 5, 6, 7, 8, 9, 10, 11, 12, 14, 17, 18, 21, 23, 26, 27, 13, 15, 16, 19, 20, 22, 24, 25, 28, 29, 30, 31, 32] (N ++ []) ae (sub_app (fun e he => (List.mem_append_left _ he)) sub_nil) ?_;refine qr rfl rfl rfl (qr rfl rfl rfl (qr rfl rfl rfl (qr rfl rfl rfl (sub_i64 ak ?_))));refine qr rfl rfl rfl (index_os (k := k - 16) sl_239 aa ao (by first | omega | (simp; omega) | (simp [*]; done)) ?_);intro p80 hp80;refine qr rfl rfl rfl (load_os1 sc_53 aa aa (fun e he => (List.mem_append_left _ he)) (by first | assumption | exact map_get aa) an ?_);refine qr rfl rfl rfl (qr rfl rfl rfl (qr rfl rfl rfl (sub_i64 ak ?_)));refine qr rfl rfl rfl (index_os (k := k - 7) sl_239 aa ao (by first | omega | (simp; omega) | (simp [*]; done)) ?_);intro p85 hp85;refine qr rfl rfl rfl (load_os1 sc_53 aa aa (fun e he => (List.mem_append_left _ he)) (by first | assumption | exact map_get aa) an ?_);refine qr rfl rfl rfl (add_u32 ?_);refine qr rfl rfl rfl (qr rfl rfl rfl (qr rfl rfl rfl (qr rfl rfl rfl (shr_nat (n := 3) ah ?_))));refine qr rfl rfl rfl (qr rfl rfl rfl (qr rfl rfl rfl (qr rfl rfl rfl (shr_nat (n := 10) ah ?_))));refine qj rfl rfl rfl ?_;refine qc (ref_turn (by first | assumption | exact S8.Lt.e aa | exact S8.Lt.a aa) ah ah) ?_;rintro v89 h8 L_ le7 ⟨rfl, rfl⟩;refine ⟨(sub_app (fun e he => (List.mem_append_left _ he)) sub_nil), ?_⟩;refine qj rfl rfl rfl ?_;refine qc (ref_turn (by first | assumption | exact S8.Lt.e aa | exact S8.Lt.a aa) ah ah) ?_;rintro v91 h10 L_ le9 ⟨rfl, rfl⟩;refine ⟨(sub_app (fun e he => (List.mem_append_left _ he)) sub_nil), ?_⟩;refine qr rfl rfl rfl (xor_u32 zX0 zX0 ?_);refine qr rfl rfl rfl (xor_u32 zX0 zX0 ?_);refine qr rfl rfl rfl (add_u32 ?_);refine qj rfl rfl rfl ?_;refine qc (ref_turn (by first | assumption | exact S8.Lt.e aa | exact S8.Lt.a aa) ah ah) ?_;rintro v98 h12 L_ le11 ⟨rfl, rfl⟩;refine ⟨(sub_app (fun e he => (List.mem_append_left _ he)) sub_nil), ?_⟩;refine qj rfl rfl rfl ?_;refine qc (ref_turn (by first | assumption | exact S8.Lt.e aa | exact S8.Lt.a aa) ah ah) ?_;rintro v100 h14 L_ le13 ⟨rfl, rfl⟩;refine ⟨(sub_app (fun e he => (List.mem_append_left _ he)) sub_nil), ?_⟩;refine qr rfl rfl rfl (xor_u32 zX0 zX0 ?_);refine qr rfl rfl rfl (xor_u32 zX0 zX0 ?_);refine qr rfl rfl rfl (add_u32 ?_);refine qj rfl rfl rfl ?_;refine qB sl_239 z_53 rfl ag ah aj ?_;intro v106 h16 le15 hv106;refine ⟨(sub_app (fun e he => (List.mem_append_left _ he)) sub_nil), ?_⟩;refine DoDr.drop rfl rfl rfl ?_;refine qp sl_239 sl_239 z_53 aa aa kR (by simp [shaW_len]; omega) ?_;intro v107 N107 hv107;refine ⟨_, kR.symm, ?_⟩;refine qr rfl rfl rfl (qe zf ?_);refine qg (qg (qA ak ?_));refine qg (qd ?_)
   exact back (m := _) ⟨k + 1, _, N107, rfl, rfl, rfl, by omega, by omega, by
    have hwn : wnext (shaW b k) = (((w16 + w7) % 4294967296 + sg0 w15) % 4294967296 + sg1 w2) % 4294967296 := by
     unfold wnext; rw [hwl, hq15, hq2, hq16, hq7]
    rw [shaW_succ, if_neg af, hwn]; simpa [u32C, sg0, sg1] using hv107⟩ af zg zl zn
  ·
   have hk64 : k = 64 := by omega
   subst hk64;refine qd ?_;refine qg (qc (ref_constants) ?_);rintro v108 h18 L_ le17 ⟨hv108, rfl⟩;refine qg (qd ?_);refine qg (qx ag_211 (zq (kT kH)) ab an ?_);refine qg (qa zc_211 ?_);intro b11;refine qg (kB si_211 ac ai ad kR ab rfl kR.symm ?_);refine qd ?_;refine qg (qd ?_);refine qL (fun s0 nn s' h' L' => ∃ (k : Nat), s' = [(12, .int .i64 k)] ++ qR s0 [2, 4, 5, 10, 11] ∧ nn = 64 - k ∧ (b11, .cells (s8C (rnds (shaW b 64) s k)).toArray 211 (0, 0)) :: (N ++ ((b4, .cells (List.replicate 8 (Value.int .u32 0)).toArray 211 (0, 0)) :: (b2, .cells (s8C s).toArray 211 (0, 0)) :: L)) = L' ∧ k ≤ 64) ⟨0, rfl, rfl, rfl, ?_⟩ zg zl zn ?_
   · exact Nat.zero_le _
   rintro nn s1 h19 L_ le20 ⟨k, rfl, rfl, rfl, hk⟩;replace hv108 := hv108.mono le20;refine qg (qg (lssB (fun c111 => ?_) (fun c111 => ?_)))
   ·
    have hkl : k < 64 := by omega
    have hr := rnds_lt (ws := shaW b 64) hs k;obtain ⟨r, hrr⟩ : ∃ r, rnds (shaW b 64) s k = r := ⟨_, rfl⟩;rw [hrr] at hr ⊢;have hra := hr.a; have hrb := hr.b; have hrc := hr.c; have hrd := hr.d; have hre := hr.e; have hrf := hr.f; have hrg := hr.g; have hrh := hr.h
    have hK := shaK_at hkl;have hW := shaW_at b hkl;have hwl := shaW_len b 64;refine qd ?_;refine qD mixed [] [0, 1, 2, 3, 4, 5, 6, 7, 8, 9, 10, 11, 12, 13, 14, 15, 16, 17] (_ :: []) ae (qq kH sub_nil) ?_;refine qr rfl rfl rfl (indexArr_own (k := 0) ar_211 ao ap ?_);refine qr rfl rfl rfl (qO sc_53 kH an ?_);refine qr rfl rfl rfl (indexArr_own (k := 1) ar_211 ao ap ?_);refine qr rfl rfl rfl (qO sc_53 kH an ?_);refine qr rfl rfl rfl (indexArr_own (k := 2) ar_211 ao ap ?_);refine qr rfl rfl rfl (qO sc_53 kH an ?_);refine qr rfl rfl rfl (indexArr_own (k := 4) ar_211 ao ap ?_);refine qr rfl rfl rfl (qO sc_53 kH an ?_);refine qr rfl rfl rfl (indexArr_own (k := 5) ar_211 ao ap ?_);refine qr rfl rfl rfl (qO sc_53 kH an ?_);refine qr rfl rfl rfl (indexArr_own (k := 6) ar_211 ao ap ?_);refine qr rfl rfl rfl (qO sc_53 kH an ?_);refine qr rfl rfl rfl (qr rfl rfl rfl (qr rfl rfl rfl (qr rfl rfl rfl (qr rfl rfl rfl (qr rfl rfl rfl (qe zf ?_))))));refine qD mixed [] [0, 1, 2, 4, 7, 11, 12, 13, 14, 15, 16, 17, 18, 20, 21, 22, 23, 25, 26, 27, 28, 3, 5, 6, 8, 9, 10, 19, 24, 29, 30] (_ :: (N ++ [])) ae (qq kH (sub_app (fun e he => (kT (List.mem_append_left _ he))) sub_nil)) ?_;refine qr rfl rfl rfl (indexArr_own (k := 7) ar_211 ao ap ?_);refine qr rfl rfl rfl (qO sc_53 kH an ?_);refine qr rfl rfl rfl (qr rfl rfl rfl (qr rfl rfl rfl (qr rfl rfl rfl (qr rfl rfl rfl (qr rfl rfl rfl (and_u32 zX0 zX0 ?_))))));refine qr rfl rfl rfl (qr rfl rfl rfl (unOp_xor_u32 af ?_));refine qr rfl rfl rfl (qr rfl rfl rfl (and_u32 zX0 zX0 ?_));refine qr rfl rfl rfl (xor_u32 zX0 zX0 ?_);refine qr rfl rfl rfl (qr rfl rfl rfl (qr rfl rfl rfl (qi (k := k) sl_239 aa rfl hK ?_)));intro p148 r148 hl148 hp148;refine qr rfl rfl rfl (ql sc_53 aa ?_);refine qr rfl rfl rfl (qr rfl rfl rfl (qr rfl rfl rfl (index_os (k := k) sl_239 aa ao (by first | omega | (simp; omega) | (simp [*]; done)) ?_)));intro p153 hp153;refine qr rfl rfl rfl (load_os1 sc_53 aa aa (fun e he => (kT (List.mem_append_left _ he))) (map_get hW) an ?_);refine qj rfl rfl rfl ?_;refine qc (ref_turn (by first | assumption | exact S8.Lt.e aa | exact S8.Lt.a aa) ah ah) ?_;rintro v129 h22 L_ le21 ⟨rfl, rfl⟩;refine ⟨(qq kH (sub_app (fun e he => (kT (List.mem_append_left _ he))) sub_nil)), ?_⟩;refine qj rfl rfl rfl ?_;refine qc (ref_turn (by first | assumption | exact S8.Lt.e aa | exact S8.Lt.a aa) ah ah) ?_;rintro v131 h24 L_ le23 ⟨rfl, rfl⟩;refine ⟨(qq kH (sub_app (fun e he => (kT (List.mem_append_left _ he))) sub_nil)), ?_⟩;refine qr rfl rfl rfl (xor_u32 zX0 zX0 ?_);refine qj rfl rfl rfl ?_;refine qc (ref_turn (by first | assumption | exact S8.Lt.e aa | exact S8.Lt.a aa) ah ah) ?_;rintro v134 h26 L_ le25 ⟨rfl, rfl⟩;refine ⟨(qq kH (sub_app (fun e he => (kT (List.mem_append_left _ he))) sub_nil)), ?_⟩;refine qr rfl rfl rfl (xor_u32 zX0 zX0 ?_);refine qr rfl rfl rfl (add_u32 ?_);refine qr rfl rfl rfl (add_u32 ?_);refine qr rfl rfl rfl (add_u32 ?_);refine qr rfl rfl rfl (add_u32 ?_);refine qr rfl rfl rfl (qe zf ?_);refine qg (qg (qc (ref_turn (by first | assumption | exact S8.Lt.e aa | exact S8.Lt.a aa) ah ah) ?_));rintro v157 h28 L_ le27 ⟨rfl, rfl⟩;refine qg (qg (qc (ref_turn (by first | assumption | exact S8.Lt.e aa | exact S8.Lt.a aa) ah ah) ?_));rintro v159 h30 L_ le29 ⟨rfl, rfl⟩;refine qg (xor_u32 zX0 zX0 ?_);refine qg (qg (qc (ref_turn (by first | assumption | exact S8.Lt.e aa | exact S8.Lt.a aa) ah ah) ?_));rintro v162 h32 L_ le31 ⟨rfl, rfl⟩;refine qg (xor_u32 zX0 zX0 ?_);refine qg (qg (qg (and_u32 zX0 zX0 ?_)));refine qg (qg (qg (and_u32 zX0 zX0 ?_)));refine qg (xor_u32 zX0 zX0 ?_);refine qg (qg (qg (and_u32 zX0 zX0 ?_)));refine qg (xor_u32 zX0 zX0 ?_);refine qg (add_u32 ?_);refine qg (qd ?_);refine qg (qg (qg (add_u32 ?_)));refine qg (qg (qg (qg (indexArr_own (k := 3) ar_211 ao ap ?_))));refine qg (qO sc_53 kH an ?_);refine qg (qg (add_u32 ?_));refine qg (qg (qg (qg (build_array zc_211 ar_211 (qy ac (qy ac (qy ac (qy ac (qy ac (qy ac (qy ac (qy ac Parts.nil)))))))) rfl ?_))));refine qg (kB si_211 ac ai ad kR ab rfl kR.symm ?_);refine qd ?_;refine qg (qg (qA ak ?_));refine qg (qd ?_)
    exact back (m := _) ⟨k + 1, rfl, rfl, by
     rw [show rnds (shaW b 64) s (k + 1) = rnd (rnds (shaW b 64) s k) (shaK.getD k 0) ((shaW b 64).getD k 0) from rfl, hrr]; rfl, by omega⟩ af zg zl zn
   ·
    have hk64 : k = 64 := by omega
    subst hk64;refine qd ?_;refine qg (qd ?_);refine qL (fun s0 nn s' h' L' => ∃ (k : Nat), s' = [(21, .int .i64 k)] ++ qR s0 [2, 4, 11] ∧ nn = 8 - k ∧ (b11, .cells (s8C (rnds (shaW b 64) s 64)).toArray 211 (0, 0)) :: (N ++ ((b4, .cells (List.replicate 8 (Value.int .u32 0)).toArray 211 (0, 0)) :: (b2, .cells (((s8L (ground s b)).take k ++ (s8L s).drop k).map u32v).toArray 211 (0, 0)) :: L)) = L' ∧ k ≤ 8) ⟨0, rfl, rfl, rfl, ?_⟩ zg zl zn ?_
    · exact Nat.zero_le _
    rintro nn s1 h33 L_ le34 ⟨k, rfl, rfl, rfl, hk⟩;refine qg (qg (lssB (fun c191 => ?_) (fun c191 => ?_)))
    ·
     have hkl : k < 8 := by omega
     obtain ⟨x, hx⟩ := s8_at s hkl;obtain ⟨y, hy⟩ := s8_at (rnds (shaW b 64) s 64) hkl;have hgk : (s8L (ground s b))[k]? = some ((x + y) % 4294967296) := by unfold ground; exact add8_at hx hy
     have hg8 : (s8L (ground s b)).length = (s8L s).length := (s8L_len _).trans (s8L_len _).symm
     generalize s8L (ground s b) = gg at hgk hg8 ⊢
     have hgl : gg.length = 8 := hg8.trans (s8L_len s);have hsl := s8L_len s;refine qd ?_;refine qD mixed [8] [0, 1, 2, 3, 4, 5, 6, 7, 8] (_ :: (_ :: [])) ae (qq (kT (zq (kT kH))) (qq kH sub_nil)) ?_;refine qr rfl rfl rfl (qr rfl rfl rfl (indexArr_own (k := k) ar_211 ao ap ?_));refine qr rfl rfl rfl (qO (v := .int .u32 (x : Nat)) sc_53 kH (by rw [Nat.zero_add, Nat.mul_one]; exact map_get (f := u32v) (by rw [td_get af]; exact hx)) ?_);refine qr rfl rfl rfl (qr rfl rfl rfl (indexArr_own (k := k) ar_211 ao ap ?_));refine qr rfl rfl rfl (qO (v := .int .u32 (y : Nat)) sc_53 (kT kH) (by rw [Nat.zero_add, Nat.mul_one, s8C_eq]; exact map_get (f := u32v) hy) ?_);refine qr rfl rfl rfl (add_u32 ?_);refine qr rfl rfl rfl (indexArr_own (k := k) ar_211 ao ap ?_);refine DoDr.drop rfl rfl rfl ?_;refine kB (l' := (gg.take (k + 1) ++ (s8L s).drop (k + 1)).map u32v) si_53 ac ai ad ((zc ((za ((zc kR).trans zw)).trans zm)).trans zw) (by simp only [List.length_map, List.length_append, List.length_take, List.length_drop]; omega) (by rw [Nat.zero_add, Nat.mul_one]; exact cells_td hgk hg8) ((zc ((za ((zc kR).trans zw)).trans zm)).trans zw).symm ?_;refine qe zf ?_;refine qg (qg (qA ak ?_));refine qg (qd ?_);exact back (m := _) ⟨k + 1, rfl, rfl, rfl, by omega⟩ af zg zl zn
    ·
     have hk8 : k = 8 := by omega
     subst hk8;have e8 : ((s8L (ground s b)).take 8 ++ (s8L s).drop 8).map u32v = s8C (ground s b) := rfl;rw [e8];refine qd ?_;refine qg (qx ag_211 (kT (zq (kT kH))) ab an ?_);refine qg (kB si_211 ac ai ad ((zc ((za kR).trans zm)).trans zw) ab rfl ((zc ((za kR).trans zm)).trans zw).symm ?_);refine qd ?_;refine DoRet.r1 (.cell rfl (qx ag_211 (kT (zq kH)) ab an rfl)) (qh (zu (List.Sublist.trans (zu (zu kS)) (List.sublist_append_right _ _)))) zl ?_;exact ⟨rfl, rfl⟩
end Go.Brd
namespace Go.Brd
open Go Go.Brd Go.Proofs
set_option linter.unusedVariables false
theorem it_53_5 : intT Tryz.prog 53 5 .u8 = true := by kernel_rfl
theorem pl_f161 : plain Tryz.prog 161 = true := by kernel_rfl
theorem byt_drop (b : List UInt8) (j k : Nat) : byt (b.drop j) k = byt b (j + k) := by unfold byt; simp [List.getD_eq_getElem?_getD]
theorem byt_take {b : List UInt8} {j k : Nat} (h : k < j) : byt (b.take j) k = byt b k := by unfold byt; rw [List.getD_eq_getElem?_getD, List.getElem?_take_of_lt h, ← List.getD_eq_getElem?_getD]
theorem shaW_congr {b b' : List UInt8} (h : ∀ k, k < 64 → byt b k = byt b' k) : ∀ n, shaW b n = shaW b' n
 | 0 => rfl
 | n + 1 => by
  rw [shaW_succ, shaW_succ, shaW_congr h n];by_cases hn : n < 16
  · rw [if_pos hn, if_pos hn]; unfold be32
    rw [h _ af, h _ af, h _ af, h _ af]
  · rw [if_neg hn, if_neg hn]
theorem ground_congr {s : S8} {b b' : List UInt8} (h : ∀ k, k < 64 → byt b k = byt b' k) : ground s b = ground s b' := by unfold ground; rw [shaW_congr h 64]
theorem ground_lt (s : S8) (b : List UInt8) : (ground s b).Lt := add8_lt _ _
def blocksN (s : S8) (b : List UInt8) : Nat → S8
 | 0 => s
 | k + 1 => ground (blocksN s b k) (b.drop (64 * k))
theorem blocksN_lt {s : S8} (hs : s.Lt) (b : List UInt8) : ∀ k, (blocksN s b k).Lt
 | 0 => hs
 | k + 1 => ground_lt _ _
theorem blocksN_part {s : S8} {b : List UInt8} {k : Nat} : blocksN s b (k + 1) = ground (blocksN s b k) ((b.take (64 * k + 64)).drop (64 * k)) := by
 show ground (blocksN s b k) (b.drop (64 * k)) = _;refine ground_congr (fun j hj => ?_);rw [byt_drop, byt_drop, byt_take af]
def be64 (m : Nat) : List UInt8 := (List.range 8).map fun i => UInt8.ofNat (m / 2 ^ (56 - 8 * i))
def padN (n : Nat) : Nat := (119 - n % 64) % 64
def tailB (n : Nat) : List UInt8 := 128 :: (List.replicate (padN n) 0 ++ be64 (8 * n))
theorem be64_len (m : Nat) : (be64 m).length = 8 := by simp [be64]
theorem tailB_len (n : Nat) : (tailB n).length = padN n + 9 := by simp [tailB, be64_len]
theorem padN_lt (n : Nat) : padN n < 64 := Nat.mod_lt _ ah
theorem tailB_mod (n : Nat) : (n + (tailB n).length) % 64 = 0 := by rw [tailB_len]; unfold padN; omega
def writtenB (s : S8) : List UInt8 := (List.range 32).map fun i => UInt8.ofNat ((s8L s).getD (i / 4) 0 / 2 ^ (24 - 8 * (i % 4)))
theorem writtenB_len (s : S8) : (writtenB s).length = 32 := by simp [writtenB]
theorem writtenB_at (s : S8) {k x : Nat} (hk : k < 32) (hx : (s8L s)[k / 4]? = some x) : (writtenB s)[k]? = some (UInt8.ofNat (x / 2 ^ (24 - 8 * (k % 4)))) := by
 unfold writtenB;rw [List.getElem?_map, List.getElem?_range hk, Option.map_some, List.getD_eq_getElem?_getD, hx]; rfl
def sha (b : List UInt8) : ID := writtenB (blocksN sha0 (b ++ tailB b.length) ((b ++ tailB b.length).length / 64))
theorem sha_len (b : List UInt8) : (sha b).length = 32 := writtenB_len _
theorem sha0_lt : sha0.Lt := ⟨by decide, by decide, by decide, by decide, by decide, by decide, by decide, by decide⟩
theorem be64_step (m : Nat) {i : Nat} (hi : i < 8) : (be64 m).take (i + 1) = (be64 m).take i ++ [UInt8.ofNat (m / 2 ^ (56 - 8 * i))] := by
 rw [List.take_add_one];congr 1
 unfold be64;rw [List.getElem?_map, List.getElem?_range hi]; rfl
theorem u8_td {A B : List UInt8} {k x : Nat} (hA : A[k]? = some (UInt8.ofNat x)) (hl : A.length = B.length) : ((A.take k ++ B.drop k).map u8V).set k (.int .u8 ((x % 256 : Nat) : Int)) = (A.take (k + 1) ++ B.drop (k + 1)).map u8V := by
 rw [← td_set hA hl, List.map_set, u8_ofNat]
theorem RBytes.part {h : GH} {v : Value} {x : List UInt8} (hs : Sl h v 1 (x.map u8C)) : RBytes h v x := hs
theorem ref_blocks {c : World} {h : GH} {L : Own} {s : S8} {v0 : Value} {b : List UInt8} (hs : s.Lt) (hb0 : RBytes h v0 b) (hsm : b.length ≤ 1073741824):
 Fun Tryz.prog c 161 #[.agg (s8C s).toArray, v0] h L (fun u _ L' => u = .agg (s8C (blocksN s b (b.length / 64))).toArray ∧ L = L') := by
 refine zS (N := 21) (args := [.agg (s8C s).toArray, v0]) Tryz.func161 ?_;refine qg (box_own rfl ?_);intro b2;refine qg (qa zc_211 ?_);intro b4;refine qd ?_;refine qg (qd ?_);refine qL (fun s0 nn s' h' L' => ∃ (k : Nat), s' = [(5, .int .i64 ((64 * k : Nat) : Int))] ++ qR s0 [1, 2, 4] ∧ nn = b.length / 64 - k ∧ (b4, .cells (List.replicate 8 (Value.int .u32 0)).toArray 211 (0, 0)) :: (b2, .cells (s8C (blocksN s b k)).toArray 211 (0, 0)) :: L = L' ∧ 64 * k ≤ b.length) ⟨0, rfl, rfl, rfl, ?_⟩ zg zl zn ?_
 · exact Nat.zero_le _
 rintro nn s1 h1 L_ le2 ⟨k, rfl, rfl, rfl, hk⟩;replace hb0 := hb0.mono le2;refine qg (qg (qA ak ?_));refine qg (qg (qm sl_109 aa ?_));refine qg (leqB (fun c10 => ?_) (fun c10 => ?_))
 ·
  have hlt := blocksN_lt hs b k;refine qd ?_;refine qD mixed [7] [0, 1, 2, 3, 4, 5, 6, 7] (_ :: []) ae (qq (kT kH) sub_nil) ?_;refine qr rfl rfl rfl (qx ag_211 kH ab an ?_);refine qr rfl rfl rfl (qr rfl rfl rfl (qr rfl rfl rfl (qr rfl rfl rfl (qA ak ?_))));refine qr rfl rfl rfl (slice_sl (lo := 64 * k) (hi := 64 * k + 64) sl_109 aa af af af (by first | (simp; done) | (simp; omega)) ?_);intro v18 hv18
  try rw [← List.map_take] at hv18
  try rw [← List.map_drop] at hv18
  refine qj rfl rfl rfl ?_;refine qc (ref_ground (b := (b.take (64 * k + 64)).drop (64 * k)) hlt hv18 (by first | (simp; done) | (simp; omega))) ?_;rintro v19 h4 L_ le3 ⟨rfl, rfl⟩;rw [← blocksN_part];refine ⟨(qq (kT kH) sub_nil), ?_⟩;refine DoDr.drop rfl rfl rfl ?_;refine kB si_211 ac ai ad ((zc kR).trans zw) ab rfl ((zc kR).trans zw).symm ?_;refine qe zf ?_;refine qg (qg (qA ak ?_));refine qg (qd ?_);exact back (m := _) ⟨k + 1, by rw [show 64 * (k + 1) = 64 * k + 64 by omega], rfl, rfl, by omega⟩ af zg zl zn
 ·
  have hke : k = b.length / 64 := by omega
  rw [hke];refine qd ?_;refine qg (qx ag_211 (kT kH) ab an ?_);refine qg (kB si_211 ac ai ad kR ab rfl kR.symm ?_);refine qd ?_;refine DoRet.r1 (.cell rfl (qx ag_211 kH ab an rfl)) (qh (zu (zu kS))) zl ?_;exact ⟨rfl, rfl⟩
theorem ref_tail {c : World} {h : GH} {L : Own} {n : Nat} (hn : n ≤ 1073741824):
 Fun Tryz.prog c 163 #[.int .i64 (n : Int)] h L (fun u _ L' => ∃ N, L' = N ++ L ∧ OB u (tailB n) N) := by
 have hp := padN_lt n;have hpd : padN n = (119 - n % 64) % 64 := rfl;refine zS (N := 31) (args := [.int .i64 (n : Int)]) Tryz.func163 ?_;refine qg (qd ?_);refine qg (buildSliceO (ls := [[.int .u8 128]]) sl_109 zc_5 (qy ac Parts.nil) rfl rfl (all1 rfl) (all1 rfl) ah ah ?_);intro v5 N5 hv5;refine qg (qd ?_);refine qL (fun s0 nn s' h' L' => ∃ (k : Nat) (v : Value) (N : Own), s' = [(3, v)] ++ qR s0 [0] ∧ nn = padN n - k ∧ N ++ L = L' ∧ k ≤ padN n ∧ OB v (128 :: List.replicate k 0) N) ⟨0, _, _, rfl, rfl, rfl, ?_⟩ zg zl zn ?_
 · exact ⟨Nat.zero_le _, hv5⟩
 rintro nn s1 h1 L_ le2 ⟨k, v, N, rfl, rfl, rfl, hk, hv⟩;refine qg (qg (qg (len_os sl_109 hv ?_)));simp only [List.length_map, List.length_cons, List.length_replicate];refine qg (qA ak ?_);refine qg (qA ak ?_);refine qg (rem_nat (a := n + (k + 1) + 8) (b := 64) ah ?_);refine qg (neqB (fun c12 => ?_) (fun c12 => ?_))
 ·
  refine qd ?_;refine qg (qg (qB sl_109 z_5 rfl ag ah aj ?_));intro v14 h4 le3 hv14;refine qg (qp sl_109 sl_109 z_5 aa aa kR (by first | (simp; done) | (simp; omega)) ?_);intro v15 N15 hv15;refine ⟨_, kR.symm, ?_⟩;refine qg (qd ?_)
  exact back (m := _) ⟨k + 1, v15, N15, rfl, rfl, rfl, by omega, by
   rw [List.replicate_succ', ← List.cons_append]; exact OB.app (y := [0]) hv15⟩ af zg zl zn
 ·
  refine qd ?_;refine qg (qd ?_);refine qL (fun s0 nn s' h' L' => ∃ (i : Nat) (v : Value) (N : Own), s' = [(3, v), (4, .int .i64 ((7 : Int) - (i : Int)))] ++ qR s0 [0] ∧ nn = 8 - i ∧ N ++ L = L' ∧ i ≤ 8 ∧ OB v (128 :: (List.replicate (padN n) 0 ++ (be64 (8 * n)).take i)) N) ⟨0, _, _, rfl, rfl, rfl, ?_⟩ zg zl zn ?_
  · have hkp : k = padN n := by omega
    subst hkp;exact ⟨Nat.zero_le _, by simpa using hv⟩
  rintro nn s1 h5 L_ le6 ⟨i, v, N, rfl, rfl, rfl, hi, hv⟩;refine qg (qg (geqB (fun c17 => ?_) (fun c17 => ?_)))
  ·
   refine qd ?_;refine qg (qg (qg (conv_u64 it_3_52 af ?_)));refine qg (mul_u64n (a := 8) af ?_);refine qg (qg (mul_i64 ak ?_));rw [show (8 : Int) * (7 - (i : Int)) = ((56 - 8 * i : Nat) : Int) by omega];refine qg (shr_nat (n := 56 - 8 * i) (by show _ ≤ 64; omega) ?_);refine qg (conv_u8 it_52_5 ?_);refine qg (qB sl_109 z_5 rfl ag ah aj ?_);intro v28 h8 le7 hv28;refine qg (qp sl_109 sl_109 z_5 aa aa kR (by simp [be64_len]; omega) ?_);intro v29 N29 hv29;refine ⟨_, kR.symm, ?_⟩;refine qg (qd ?_);refine qg (qg (sub_i64 ak ?_));refine qg (qd ?_)
   exact back (m := _) ⟨i + 1, v29, N29, by rw [show (7 : Int) - ((i + 1 : Nat) : Int) = 7 - (i : Int) - 1 by omega], rfl, rfl, by omega, by
    rw [be64_step _ af, ← List.append_assoc, ← List.cons_append]; exact OB.snoc (v' := v29) (q := v29) hv29⟩ af zg zl zn
  ·
   refine qd ?_;refine qg (qg (qd ?_));refine DoRet.r1 (.tmp rfl) (qh (List.Sublist.append_left kS _)) zl ?_;have hi8 : i = 8 := by omega
   subst hi8;rw [List.take_of_length_le (by rw [be64_len]; decide)] at hv;exact ⟨N, rfl, hv⟩
theorem ref_written {c : World} {h : GH} {L : Own} {s : S8} (hs : s.Lt):
 Fun Tryz.prog c 160 #[.agg (s8C s).toArray] h L (fun u _ L' => u = idV (writtenB s) ∧ L = L') := by
 refine zS (N := 22) (args := [.agg (s8C s).toArray]) Tryz.func160 ?_;refine qg (box_at rfl ?_);intro p1 h2 le1 hp1;refine qg (qa zc_74 ?_);intro b2;refine qd ?_;refine qg (qa zc_74 ?_);intro b3;refine qd ?_;refine qg (qd ?_);refine qL (fun s0 nn s' h' L' => ∃ (k : Nat), s' = [(4, .int .i64 k)] ++ qR s0 [1, 2, 3] ∧ nn = 32 - k ∧ (b3, .cells (((writtenB s).take k ++ (List.replicate 32 (0 : UInt8)).drop k).map u8V).toArray 74 (0, 0)) :: (b2, .cells (List.replicate 32 (Value.int .u8 0)).toArray 74 (0, 0)) :: L = L' ∧ k ≤ 32) ⟨0, rfl, rfl, rfl, ?_⟩ zg zl zn ?_
 · exact Nat.zero_le _
 rintro nn s1 h3 L_ le4 ⟨k, rfl, rfl, rfl, hk⟩;replace hp1 := hp1.mono le4;refine qg (qg (lssB (fun c6 => ?_) (fun c6 => ?_)))
 ·
  have hkl : k < 32 := by omega
  obtain ⟨x, hx⟩ := s8_at s (k := k / 4) af;have hxl := s8_lt hs hx;have hw := writtenB_at s hkl hx;have hwl : (writtenB s).length = (List.replicate 32 (0 : UInt8)).length := by rw [writtenB_len, List.length_replicate]
  refine qd ?_;refine qg (qg (qg (quo_nat (a := k) (b := 4) ah (by refine wrap_i64 ?_; unfold InI64; omega) ?_)));refine qg (indexArr_at (k := k / 4) ar_211 aa rfl ap ?_);intro p12 hp12;refine qg (load_atD (v := .int .u32 (x : Nat)) sc_53 hp12 (by rw [Nat.mul_one, s8C_eq]; exact map_get (f := u32v) hx) ?_);refine qg (qg (rem_nat (a := k) (b := 4) ah ?_));refine qg (mul_i64n (a := 8) (b := k % 4) af ?_);refine qg (sub_i64n (a := 24) (b := 8 * (k % 4)) af af ?_);refine qg (shr_nat (n := 24 - 8 * (k % 4)) (by show _ ≤ 32; omega) ?_);refine qg (conv_u8 it_53_5 ?_);refine qg (indexArr_own (k := k) ar_74 ao ap ?_);refine qg (kB (l' := ((writtenB s).take (k + 1) ++ (List.replicate 32 (0 : UInt8)).drop (k + 1)).map u8V) si_5 ac ai ad kR (by simp only [List.length_map, List.length_append, List.length_take, List.length_drop, List.length_replicate, writtenB_len]; omega) (by rw [Nat.zero_add, Nat.mul_one]; exact u8_td hw hwl) kR.symm ?_);refine qd ?_;refine qg (qg (qA ak ?_));refine qg (qd ?_);exact back (m := _) ⟨k + 1, rfl, rfl, rfl, by omega⟩ af zg zl zn
 ·
  have hk32 : k = 32 := by omega
  subst hk32
  have e32 : ((writtenB s).take 32 ++ (List.replicate 32 (0 : UInt8)).drop 32).map u8V = idC (writtenB s) := by
   rw [List.take_of_length_le (by rw [writtenB_len]; decide)]; simp [idC]
  rw [e32];have hcl : (idC (writtenB s)).length = 32 := by rw [idC_length, writtenB_len]
  generalize writtenB s = w at hcl ⊢
  refine qd ?_;refine qg (qx (r := idC w) ag_74 kH (by rw [hcl]; decide) (by rw [List.drop_zero, List.take_of_length_le (by rw [hcl]; decide)]) ?_);refine qg (kB (l' := idC w) si_74 ac hcl (idC_one _) ((zc kR).trans zw) ab (over_all (by rw [hcl, List.length_replicate])) ((zc kR).trans zw).symm ?_);refine qd ?_;refine DoRet.r1 (.cell rfl (qx (r := idC w) ag_74 (kT kH) (by rw [hcl]; decide) (by rw [List.drop_zero, List.take_of_length_le (by rw [hcl]; decide)]) rfl)) (qh (zu (zu kS))) zl ?_;exact ⟨rfl, rfl⟩
theorem ref_of {c : World} {h : GH} {L : Own} {v0 : Value} {b : List UInt8} (hb0 : RBytes h v0 b) (hsm : b.length ≤ 20000):
 Fun Tryz.prog c 105 #[v0] h L (fun u _ L' => u = idV (sha b) ∧ L = L') := by
 have htl := tailB_len b.length;have hpl := padN_lt b.length;refine zS (N := 13) (args := [v0]) Tryz.func105 ?_;refine qg (qa zc_74 ?_);intro b2;refine qd ?_;refine qg (qc (ref_first) ?_);rintro v3 h2 L_ le1 ⟨rfl, rfl⟩;replace hb0 := hb0.mono le1;refine qg (buildSlice0 sl_109 ?_);intro v4 N4 hv4;refine qg (qg (qp sl_109 sl_109 z_5 aa aa kR (by first | (simp; done) | (simp; omega)) ?_));intro v6 N6 hv6;refine ⟨_, kR.symm, ?_⟩;refine qg (qg (qm sl_109 aa ?_));refine qg (qc (ref_tail af) ?_);rintro v9 h4 L_ le3 ⟨N9, rfl, hv9⟩;refine qg (DoV.freeze hv9 al kR ?_);intro h5 le6 hv9;refine qp sl_109 sl_109 z_5 aa aa kR (by first | (simp; done) | (simp; omega)) ?_;intro v10 N10 hv10;refine ⟨_, kR.symm, ?_⟩;refine qg (DoCall.freeze pl_f161 hv10 ar kR ?_);intro h7 le8 hv10;refine qc (ref_blocks (b := b ++ tailB b.length) sha0_lt (by simpa [RBytes, List.map_append] using hv10) ar) ?_;rintro v11 h10 L_ le9 ⟨rfl, rfl⟩;refine qg (qc (ref_written (blocksN_lt sha0_lt _ _)) ?_);rintro v12 h12 L_ le11 ⟨rfl, rfl⟩;have hcl : (idC (sha b)).length = 32 := by rw [idC_length, sha_len]
 rw [show writtenB (blocksN sha0 (b ++ tailB b.length) ((b ++ tailB b.length).length / 64)) = sha b from rfl]
 generalize sha b = w at hcl ⊢
 refine qg (kB (l' := idC w) si_74 ac hcl (idC_one _) kR ab (over_all (by rw [hcl, List.length_replicate])) kR.symm ?_);refine qd ?_;refine DoRet.r1 (.cell rfl (qx (r := idC w) ag_74 kH (by rw [hcl]; decide) (by rw [List.drop_zero, List.take_of_length_le (by rw [hcl]; decide)]) rfl)) (qh (zu kS)) zl ?_;exact ⟨rfl, rfl⟩
end Go.Brd
