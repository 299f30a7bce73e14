/- Lemmas of the proof. Conditions: as each one states. -/
import Derived.Shelf.Small.Bits
import Derived.Shelf.SlicesE.Clone
import Derived.Shelf.SlMaps.Clone
import Derived.Ground.SlgnProg
import Derived.Ground.SlmcProg
import Derived.Test.YtpaeogglppampaaGreatDoorProg
set_option maxRecDepth 100000
set_option maxHeartbeats 16000000
namespace Go.Proofs
open Go.Shelf
def Tryz.lenA_ren:Go.Shelf.Ren:=⟨fun |125=>118 |128=>159 |129=>160 |n=>n,fun |46=>207 |3=>3 |51=>265 |53=>25 |4=>4 |5=>5 |9=>9 |n=>n,fun |n=>n⟩
theorem Tryz.lenA:Go.Proofs.Lays.n125 Tryz.prog Tryz.lenA_ren:={
 mixed:=by kernel_rfl
 f125:=Tryz.func118.trans (congrArg some (by kernel_rfl))
 f128:=Tryz.func159.trans (congrArg some (by kernel_rfl))
 f129:=Tryz.func160.trans (congrArg some (by kernel_rfl))
 t3:=Tryz.underlying3
 a3:=Tryz.isAgg3
 z3:=Tryz.sizeOf3
 v3:=Tryz.zeroValue3
 t4:=Tryz.underlying4
 a4:=Tryz.isAgg4
 z4:=Tryz.sizeOf4
 v4:=Tryz.zeroValue4
 t5:=Tryz.underlying5
 a5:=Tryz.isAgg5
 z5:=Tryz.sizeOf5
 v5:=Tryz.zeroValue5
 t9:=Tryz.underlying9
 a9:=Tryz.isAgg9
 z9:=Tryz.sizeOf9
 v9:=Tryz.zeroValue9
 t46:=Tryz.underlying207
 a46:=Tryz.isAgg207
 z46:=Tryz.sizeOf207
 v46:=Tryz.zeroValue207
 t51:=Tryz.underlying265
 a51:=Tryz.isAgg265
 z51:=Tryz.sizeOf265
 v51:=Tryz.zeroValue265
 t53:=Tryz.underlying25
 a53:=Tryz.isAgg25
 z53:=Tryz.sizeOf25
 v53:=Tryz.zeroValue25 }
def Tryz.cloneLiveA_ren:Go.Shelf.Ren:=⟨fun |41=>86 |n=>n,fun |22=>45 |23=>52 |4=>4 |n=>n,fun |n=>n⟩
theorem Tryz.cloneLiveA:Go.Proofs.SlLaysE0.n41 Tryz.prog Tryz.cloneLiveA_ren:={
 mixed:=by kernel_rfl
 f41:=⟨Tryz.f86.name,by decide,Tryz.func86.trans (congrArg some (by kernel_rfl))⟩
 t4:=Tryz.underlying4
 a4:=Tryz.isAgg4
 z4:=Tryz.sizeOf4
 v4:=Tryz.zeroValue4
 t22:=Tryz.underlying45
 a22:=Tryz.isAgg45
 z22:=Tryz.sizeOf45
 v22:=Tryz.zeroValue45 }
def Tryz.cloneIntA_ren:Go.Shelf.Ren:=⟨fun |41=>88 |n=>n,fun |22=>62 |23=>3 |4=>4 |n=>n,fun |n=>n⟩
theorem Tryz.cloneIntA:Go.Proofs.SlLaysE0.n41 Tryz.prog Tryz.cloneIntA_ren:={
 mixed:=by kernel_rfl
 f41:=⟨Tryz.f88.name,by decide,Tryz.func88.trans (congrArg some (by kernel_rfl))⟩
 t4:=Tryz.underlying4
 a4:=Tryz.isAgg4
 z4:=Tryz.sizeOf4
 v4:=Tryz.zeroValue4
 t22:=Tryz.underlying62
 a22:=Tryz.isAgg62
 z22:=Tryz.sizeOf62
 v22:=Tryz.zeroValue62 }
def Tryz.cloneU64A_ren:Go.Shelf.Ren:=⟨fun |41=>125 |n=>n,fun |22=>71 |23=>25 |4=>4 |n=>n,fun |n=>n⟩
theorem Tryz.cloneU64A:Go.Proofs.SlLaysE0.n41 Tryz.prog Tryz.cloneU64A_ren:={
 mixed:=by kernel_rfl
 f41:=⟨Tryz.f125.name,by decide,Tryz.func125.trans (congrArg some (by kernel_rfl))⟩
 t4:=Tryz.underlying4
 a4:=Tryz.isAgg4
 z4:=Tryz.sizeOf4
 v4:=Tryz.zeroValue4
 t22:=Tryz.underlying71
 a22:=Tryz.isAgg71
 z22:=Tryz.sizeOf71
 v22:=Tryz.zeroValue71 }
def Tryz.cloneEntA_ren:Go.Shelf.Ren:=⟨fun |41=>127 |n=>n,fun |22=>219 |23=>110 |4=>4 |n=>n,fun |n=>n⟩
theorem Tryz.cloneEntA:Go.Proofs.SlLaysE0.n41 Tryz.prog Tryz.cloneEntA_ren:={
 mixed:=by kernel_rfl
 f41:=⟨Tryz.f127.name,by decide,Tryz.func127.trans (congrArg some (by kernel_rfl))⟩
 t4:=Tryz.underlying4
 a4:=Tryz.isAgg4
 z4:=Tryz.sizeOf4
 v4:=Tryz.zeroValue4
 t22:=Tryz.underlying219
 a22:=Tryz.isAgg219
 z22:=Tryz.sizeOf219
 v22:=Tryz.zeroValue219 }
def Tryz.mapCloneA_ren:Go.Shelf.Ren:=⟨fun |5=>87 |7=>126 |n=>n,fun |23=>134 |25=>25 |3=>62 |4=>4 |20=>20 |n=>n,fun |n=>n⟩
theorem Tryz.mapCloneA:Go.Proofs.SlLaysW.n5 Tryz.prog Tryz.mapCloneA_ren:={
 mixed:=by kernel_rfl
 f5:=⟨Tryz.f87.name,by decide,Tryz.func87.trans (congrArg some (by kernel_rfl))⟩
 f7:=Tryz.func126.trans (congrArg some (by kernel_rfl))
 t4:=Tryz.underlying4
 a4:=Tryz.isAgg4
 z4:=Tryz.sizeOf4
 v4:=Tryz.zeroValue4
 t20:=Tryz.underlying20
 a20:=Tryz.isAgg20
 z20:=Tryz.sizeOf20
 v20:=Tryz.zeroValue20
 t23:=Tryz.underlying134
 a23:=Tryz.isAgg134
 z23:=Tryz.sizeOf134
 v23:=Tryz.zeroValue134 }
end Go.Proofs
