/-
  A part of a proof, joined by a program (wip/bundle3.py).
-/
import Derived.Shelf.Small.Bits
import Derived.Shelf.Small.Wraps
import Derived.Shelf.Strconv.Itoa0
import Derived.Shelf.Sort.Plain
import Derived.Shelf.Slices.Turned
import Derived.Shelf.Slices.Reverse
import Derived.Ground.Names2Prog
import Derived.Shelf.Slices.Clone
import Derived.Shelf.Slices.SearchI
import Derived.Shelf.Slices.Cells
import Derived.Shelf.Slices.In.SortNone
import Derived.Ground.SlgnProg
import Derived.Shelf.SlicesE.Clone
import Derived.Shelf.SlSortCmp.WholeK
import Derived.Ground.SlsfProg
import Derived.Shelf.SlGeneric
import Derived.Test.YtakbmjoijcpdmaaGreatDoorProg
set_option linter.unusedVariables false
set_option linter.unusedSimpArgs false
namespace Go.Proofs
open Go.Shelf
def Tryz.UQ:Go.Shelf.Ren:=⟨fun|125=>170|128=>223|129=>224|n=>n,fun|46=>150|3=>3|51=>32|53=>43|4=>4|5=>5|9=>9|n=>n,fun|n=>n⟩
theorem Tryz.UP:Go.Proofs.Lays.n125 Tryz.prog Tryz.UQ:={
 mixed:=by kernel_rfl
 f125:=Tryz.func170.trans (congrArg some (by kernel_rfl))
 f128:=Tryz.func223.trans (congrArg some (by kernel_rfl))
 f129:=Tryz.func224.trans (congrArg some (by kernel_rfl))
 t3:=Tryz.underlying3
 a3:=Tryz.isAgg3
 z3:=Tryz.sizeOf3
 v3:=Tryz.zeroValue3
 t4:=Tryz.underlying4
 a4:=Tryz.isAgg4
 z4:=Tryz.sizeOf4
 v4:=Tryz.zeroValue4
 t5:=Tryz.underlying5
 a5:=Tryz.isAgg5
 z5:=Tryz.sizeOf5
 v5:=Tryz.zeroValue5
 t9:=Tryz.underlying9
 a9:=Tryz.isAgg9
 z9:=Tryz.sizeOf9
 v9:=Tryz.zeroValue9
 t46:=Tryz.underlying150
 a46:=Tryz.isAgg150
 z46:=Tryz.sizeOf150
 v46:=Tryz.zeroValue150
 t51:=Tryz.underlying32
 a51:=Tryz.isAgg32
 z51:=Tryz.sizeOf32
 v51:=Tryz.zeroValue32
 t53:=Tryz.underlying43
 a53:=Tryz.isAgg43
 z53:=Tryz.sizeOf43
 v53:=Tryz.zeroValue43}
theorem Tryz.bits_Len (x:Int)(w:World)(h0:0≤x)(h1:x≤18446744073709551615):
  Calls Tryz.prog 170 #[.int .u64 x] w fun e w'=>e= .returned (.int .i64 (Lib.bitLen x.toNat))∧w'=w:=Any.bits_Len Tryz.UP x w h0 h1
def Tryz.UR:Go.Shelf.Ren:=⟨fun|189=>175|125=>170|257=>228|128=>223|129=>224|294=>256|295=>257|296=>258|297=>259|298=>260|299=>261|216=>262|300=>263|301=>264|328=>272|329=>268|330=>269|331=>273|332=>274|215=>255|343=>276|n=>n,fun|28=>26|3=>3|46=>150|0=>0|51=>32|53=>43|4=>4|183=>346|182=>345|131=>205|5=>5|9=>9|218=>357|222=>360|228=>365|229=>103|n=>n,fun|n=>n⟩
theorem Tryz.JG:Go.Proofs.Lays.n189 Tryz.prog Tryz.UR:={
 mixed:=by kernel_rfl
 f125:=Tryz.func170.trans (congrArg some (by kernel_rfl))
 f128:=Tryz.func223.trans (congrArg some (by kernel_rfl))
 f129:=Tryz.func224.trans (congrArg some (by kernel_rfl))
 f189:=Tryz.func175.trans (congrArg some (by kernel_rfl))
 f215:=Tryz.func255.trans (congrArg some (by kernel_rfl))
 f216:=Tryz.func262.trans (congrArg some (by kernel_rfl))
 f257:=Tryz.func228.trans (congrArg some (by kernel_rfl))
 f294:=Tryz.func256.trans (congrArg some (by kernel_rfl))
 f295:=Tryz.func257.trans (congrArg some (by kernel_rfl))
 f296:=Tryz.func258.trans (congrArg some (by kernel_rfl))
 f297:=Tryz.func259.trans (congrArg some (by kernel_rfl))
 f298:=Tryz.func260.trans (congrArg some (by kernel_rfl))
 f299:=Tryz.func261.trans (congrArg some (by kernel_rfl))
 f300:=Tryz.func263.trans (congrArg some (by kernel_rfl))
 f301:=Tryz.func264.trans (congrArg some (by kernel_rfl))
 f328:=Tryz.func272.trans (congrArg some (by kernel_rfl))
 f329:=Tryz.func268.trans (congrArg some (by kernel_rfl))
 f330:=Tryz.func269.trans (congrArg some (by kernel_rfl))
 f331:=Tryz.func273.trans (congrArg some (by kernel_rfl))
 f332:=Tryz.func274.trans (congrArg some (by kernel_rfl))
 f343:=Tryz.func276.trans (congrArg some (by kernel_rfl))
 t0:=Tryz.underlying0
 a0:=Tryz.isAgg0
 z0:=Tryz.sizeOf0
 v0:=Tryz.zeroValue0
 t3:=Tryz.underlying3
 a3:=Tryz.isAgg3
 z3:=Tryz.sizeOf3
 v3:=Tryz.zeroValue3
 t4:=Tryz.underlying4
 a4:=Tryz.isAgg4
 z4:=Tryz.sizeOf4
 v4:=Tryz.zeroValue4
 t5:=Tryz.underlying5
 a5:=Tryz.isAgg5
 z5:=Tryz.sizeOf5
 v5:=Tryz.zeroValue5
 t9:=Tryz.underlying9
 a9:=Tryz.isAgg9
 z9:=Tryz.sizeOf9
 v9:=Tryz.zeroValue9
 t28:=Tryz.underlying26
 a28:=Tryz.isAgg26
 z28:=Tryz.sizeOf26
 v28:=Tryz.zeroValue26
 t46:=Tryz.underlying150
 a46:=Tryz.isAgg150
 z46:=Tryz.sizeOf150
 v46:=Tryz.zeroValue150
 t51:=Tryz.underlying32
 a51:=Tryz.isAgg32
 z51:=Tryz.sizeOf32
 v51:=Tryz.zeroValue32
 t53:=Tryz.underlying43
 a53:=Tryz.isAgg43
 z53:=Tryz.sizeOf43
 v53:=Tryz.zeroValue43
 t131:=Tryz.underlying205
 a131:=Tryz.isAgg205
 z131:=Tryz.sizeOf205
 v131:=Tryz.zeroValue205
 t182:=Tryz.underlying345
 a182:=Tryz.isAgg345
 z182:=Tryz.sizeOf345
 v182:=Tryz.zeroValue345
 t183:=Tryz.underlying346
 a183:=Tryz.isAgg346
 z183:=Tryz.sizeOf346
 v183:=Tryz.zeroValue346
 t218:=Tryz.underlying357
 a218:=Tryz.isAgg357
 z218:=Tryz.sizeOf357
 v218:=Tryz.zeroValue357
 t222:=Tryz.underlying360
 a222:=Tryz.isAgg360
 z222:=Tryz.sizeOf360
 v222:=Tryz.zeroValue360
 t228:=Tryz.underlying365
 a228:=Tryz.isAgg365
 z228:=Tryz.sizeOf365
 v228:=Tryz.zeroValue365
 t229:=Tryz.underlying103
 a229:=Tryz.isAgg103
 z229:=Tryz.sizeOf103
 v229:=Tryz.zeroValue103}
open Go.Sort Go.RowKit in
theorem Tryz.slices_Sort_int (cH off cap:Nat)(zs:List Int)(w:World)(hH:Holds (Value.int .i64) w cH off zs.toArray)(hblk:cH<w.heap.size)(dW:zs.length<4611686018427387904):
  Calls Tryz.prog 175 #[.slice (some ⟨cH,off,none⟩) zs.length cap] w fun e w'=>
   e= .returned (.tuple #[])∧∃n os,w'=grow (putRow (Value.int .i64) (Sort.ahead w n) cH off (zs.mergeSort fun x y=>decide (x≤y)).toArray) os:=Any.slices_Sort_int Tryz.JG cH off cap zs w hH hblk dW
def Tryz.UO:Go.Shelf.Ren:=⟨fun|112=>213|n=>n,fun|28=>26|3=>3|4=>4|0=>0|n=>n,fun|n=>n⟩
theorem Tryz.JF:Go.Proofs.Lays.n112 Tryz.prog Tryz.UO:={
 mixed:=by kernel_rfl
 f112:=Tryz.func213.trans (congrArg some (by kernel_rfl))
 t0:=Tryz.underlying0
 a0:=Tryz.isAgg0
 z0:=Tryz.sizeOf0
 v0:=Tryz.zeroValue0
 t3:=Tryz.underlying3
 a3:=Tryz.isAgg3
 z3:=Tryz.sizeOf3
 v3:=Tryz.zeroValue3
 t4:=Tryz.underlying4
 a4:=Tryz.isAgg4
 z4:=Tryz.sizeOf4
 v4:=Tryz.zeroValue4
 t28:=Tryz.underlying26
 a28:=Tryz.isAgg26
 z28:=Tryz.sizeOf26
 v28:=Tryz.zeroValue26}
open Go.RowKit Go.Lib Go.Sort in
theorem Tryz.slices_Reverse_int (cH off cap:Nat)(zs:List Int)(w:World)(hH:Holds (Value.int .i64) w cH off zs.toArray)(dW:zs.length≤9223372036854775807):
  Calls Tryz.prog 213 #[.slice (some ⟨cH,off,none⟩) zs.length cap] w fun e w'=>e= .returned (.tuple #[])∧∃n,w'=putRow (Value.int .i64) (Sort.ahead w n) cH off zs.reverse.toArray:=Any.slices_Reverse_int Tryz.JF cH off cap zs w hH dW
open Go.RowKit Go.Lib Go.Sort in
theorem Tryz.slices_Reverse_int_empty (a:Option Addr)(cap:Nat)(w:World):
  Calls Tryz.prog 213 #[.slice a 0 cap] w fun e w'=>e= .returned (.tuple #[])∧w'=w:=Any.slices_Reverse_int_empty Tryz.JF a cap w
open Go.RowKit Go.Sort in
theorem Tryz.slices_Sort_int_none (p:Option Addr)(cap:Nat)(w:World):
  Calls Tryz.prog 175 #[.slice p 0 cap] w fun e w'=>e= .returned (.tuple #[])∧w'=w:=Any.slices_Sort_int_none Tryz.JG p cap w
end Go.Proofs
