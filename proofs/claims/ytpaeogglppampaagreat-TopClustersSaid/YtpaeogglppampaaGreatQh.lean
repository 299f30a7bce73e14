/- Lemmas of the proof. Conditions: as each one states. -/
import Derived.Shelf.Small.Bits
import Derived.Shelf.SlicesE.Clone
import Derived.Shelf.SlMaps.Clone
import Derived.Ground.SlgnProg
import Derived.Ground.SlmcProg
import Derived.Test.YtpaeogglppampaaGreatProg
set_option maxRecDepth 100000
set_option maxHeartbeats 16000000
namespace Go.Proofs
open Go.Shelf
def Tryz.lenA_ren:Go.Shelf.Ren:=⟨fun |125=>111 |128=>156 |129=>157 |n=>n,fun |46=>198 |3=>3 |51=>253 |53=>25 |4=>4 |5=>5 |9=>9 |n=>n,fun |n=>n⟩
theorem Tryz.lenA:Go.Proofs.Lays.n125 Tryz.prog Tryz.lenA_ren:={
 mixed:=by kernel_rfl
 f125:=Tryz.func111.trans (congrArg some (by kernel_rfl))
 f128:=Tryz.func156.trans (congrArg some (by kernel_rfl))
 f129:=Tryz.func157.trans (congrArg some (by kernel_rfl))
 t3:=Tryz.underlying3
 a3:=Tryz.isAgg3
 z3:=Tryz.sizeOf3
 v3:=Tryz.zeroValue3
 t4:=Tryz.underlying4
 a4:=Tryz.isAgg4
 z4:=Tryz.sizeOf4
 v4:=Tryz.zeroValue4
 t5:=Tryz.underlying5
 a5:=Tryz.isAgg5
 z5:=Tryz.sizeOf5
 v5:=Tryz.zeroValue5
 t9:=Tryz.underlying9
 a9:=Tryz.isAgg9
 z9:=Tryz.sizeOf9
 v9:=Tryz.zeroValue9
 t46:=Tryz.underlying198
 a46:=Tryz.isAgg198
 z46:=Tryz.sizeOf198
 v46:=Tryz.zeroValue198
 t51:=Tryz.underlying253
 a51:=Tryz.isAgg253
 z51:=Tryz.sizeOf253
 v51:=Tryz.zeroValue253
 t53:=Tryz.underlying25
 a53:=Tryz.isAgg25
 z53:=Tryz.sizeOf25
 v53:=Tryz.zeroValue25 }
def Tryz.cloneLiveA_ren:Go.Shelf.Ren:=⟨fun |41=>88 |n=>n,fun |22=>42 |23=>45 |4=>4 |n=>n,fun |n=>n⟩
theorem Tryz.cloneLiveA:Go.Proofs.SlLaysE0.n41 Tryz.prog Tryz.cloneLiveA_ren:={
 mixed:=by kernel_rfl
 f41:=⟨Tryz.f88.name,by decide,Tryz.func88.trans (congrArg some (by kernel_rfl))⟩
 t4:=Tryz.underlying4
 a4:=Tryz.isAgg4
 z4:=Tryz.sizeOf4
 v4:=Tryz.zeroValue4
 t22:=Tryz.underlying42
 a22:=Tryz.isAgg42
 z22:=Tryz.sizeOf42
 v22:=Tryz.zeroValue42 }
def Tryz.cloneIntA_ren:Go.Shelf.Ren:=⟨fun |41=>90 |n=>n,fun |22=>64 |23=>3 |4=>4 |n=>n,fun |n=>n⟩
theorem Tryz.cloneIntA:Go.Proofs.SlLaysE0.n41 Tryz.prog Tryz.cloneIntA_ren:={
 mixed:=by kernel_rfl
 f41:=⟨Tryz.f90.name,by decide,Tryz.func90.trans (congrArg some (by kernel_rfl))⟩
 t4:=Tryz.underlying4
 a4:=Tryz.isAgg4
 z4:=Tryz.sizeOf4
 v4:=Tryz.zeroValue4
 t22:=Tryz.underlying64
 a22:=Tryz.isAgg64
 z22:=Tryz.sizeOf64
 v22:=Tryz.zeroValue64 }
def Tryz.cloneU64A_ren:Go.Shelf.Ren:=⟨fun |41=>131 |n=>n,fun |22=>46 |23=>25 |4=>4 |n=>n,fun |n=>n⟩
theorem Tryz.cloneU64A:Go.Proofs.SlLaysE0.n41 Tryz.prog Tryz.cloneU64A_ren:={
 mixed:=by kernel_rfl
 f41:=⟨Tryz.f131.name,by decide,Tryz.func131.trans (congrArg some (by kernel_rfl))⟩
 t4:=Tryz.underlying4
 a4:=Tryz.isAgg4
 z4:=Tryz.sizeOf4
 v4:=Tryz.zeroValue4
 t22:=Tryz.underlying46
 a22:=Tryz.isAgg46
 z22:=Tryz.sizeOf46
 v22:=Tryz.zeroValue46 }
def Tryz.cloneEntA_ren:Go.Shelf.Ren:=⟨fun |41=>133 |n=>n,fun |22=>216 |23=>112 |4=>4 |n=>n,fun |n=>n⟩
theorem Tryz.cloneEntA:Go.Proofs.SlLaysE0.n41 Tryz.prog Tryz.cloneEntA_ren:={
 mixed:=by kernel_rfl
 f41:=⟨Tryz.f133.name,by decide,Tryz.func133.trans (congrArg some (by kernel_rfl))⟩
 t4:=Tryz.underlying4
 a4:=Tryz.isAgg4
 z4:=Tryz.sizeOf4
 v4:=Tryz.zeroValue4
 t22:=Tryz.underlying216
 a22:=Tryz.isAgg216
 z22:=Tryz.sizeOf216
 v22:=Tryz.zeroValue216 }
def Tryz.mapCloneA_ren:Go.Shelf.Ren:=⟨fun |5=>89 |7=>132 |n=>n,fun |23=>136 |25=>25 |3=>64 |4=>4 |20=>20 |n=>n,fun |n=>n⟩
theorem Tryz.mapCloneA:Go.Proofs.SlLaysW.n5 Tryz.prog Tryz.mapCloneA_ren:={
 mixed:=by kernel_rfl
 f5:=⟨Tryz.f89.name,by decide,Tryz.func89.trans (congrArg some (by kernel_rfl))⟩
 f7:=Tryz.func132.trans (congrArg some (by kernel_rfl))
 t4:=Tryz.underlying4
 a4:=Tryz.isAgg4
 z4:=Tryz.sizeOf4
 v4:=Tryz.zeroValue4
 t20:=Tryz.underlying20
 a20:=Tryz.isAgg20
 z20:=Tryz.sizeOf20
 v20:=Tryz.zeroValue20
 t23:=Tryz.underlying136
 a23:=Tryz.isAgg136
 z23:=Tryz.sizeOf136
 v23:=Tryz.zeroValue136 }
end Go.Proofs
