/- Lemmas of the proof. Conditions: as each one states. -/
import Derived.Test.YtpaeogglppampaaGreatDoorQa
import Derived.Laws.BitsLemmas
import Derived.IntWalk
set_option maxRecDepth 100000
set_option maxHeartbeats 16000000
namespace Go.Proofs.YtpaeogglppampaaGreatDoor
open Go.RowKit
theorem DU {p:Nat} (hp:p≤40) (n:Int):(BitVec.ofInt 64 n&&&BitVec.ofInt 64 ((2 ^ p-1:Nat):Int)).toNat=(n%((2 ^ 64:Nat):Int)).toNat%2 ^ p:=by
 have h1:2 ^ p≤2 ^ 40:=Nat.pow_le_pow_right (by decide) hp;have h0:0<2 ^ p:=Nat.two_pow_pos p;rw[BitVec.toNat_and,BitVec.toNat_ofInt,BitVec.ofInt_natCast,BitVec.toNat_ofNat,Nat.mod_eq_of_lt (a:=2 ^ p-1) om,Nat.and_two_pow_sub_one_eq_mod]
theorem DT {p:Nat} (hp:p≤40) (n:Int):(((n%((2 ^ 64:Nat):Int)).toNat%2 ^ p:Nat):Int)=n%((2 ^ p:Nat):Int):=by
 have hd:((2 ^ p:Nat):Int) ∣ ((2 ^ 64:Nat):Int):=Int.natCast_dvd_natCast.2 (Nat.pow_dvd_pow 2 om);rw[Int.natCast_emod,Int.toNat_of_nonneg (Int.emod_nonneg _ (by decide)),Int.emod_emod_of_dvd _ hd]
theorem Q6 {p:Nat} (hp:p≤40) (n:Int):bits .and .i64 n ((2 ^ p-1:Nat):Int)=n%((2 ^ p:Nat):Int):=by
 have h1:2 ^ p≤2 ^ 40:=Nat.pow_le_pow_right (by decide) hp;have h0:0<2 ^ p:=Nat.two_pow_pos p;show IntKind.i64.wrap ((BitVec.ofInt 64 n&&&BitVec.ofInt 64 ((2 ^ p-1:Nat):Int)).toNat:Nat)=_;rw[DU hp,DT hp,IntKind.wrap_i64];generalize 2 ^ p=N at*;have a:=Int.emod_nonneg n (b:=(N:Int)) om;have b:=Int.emod_lt_of_pos n (b:=(N:Int)) om;omega
theorem Oj {p:Nat} (hp:p≤40) (n:Int):bits .and .u64 n ((2 ^ p-1:Nat):Int)=n%((2 ^ p:Nat):Int):=by
 have h1:2 ^ p≤2 ^ 40:=Nat.pow_le_pow_right (by decide) hp;have h0:0<2 ^ p:=Nat.two_pow_pos p;show IntKind.u64.wrap ((BitVec.ofInt 64 n&&&BitVec.ofInt 64 ((2 ^ p-1:Nat):Int)).toNat:Nat)=_;rw[DU hp,DT hp];generalize 2 ^ p=N at*;have a:=Int.emod_nonneg n (b:=(N:Int)) om;have b:=Int.emod_lt_of_pos n (b:=(N:Int)) om;exact IntWalk.u64_in _ om
def Pw (N:Nat):Prop:=∃p,p≤17∧N=2 ^ p
theorem Pw.pos {N:Nat} (h:Pw N):1≤N∧N≤131072:=by
 obtain⟨p,hp,rfl⟩:=h;exact⟨Nat.two_pow_pos p,Nat.le_trans (Nat.pow_le_pow_right (by decide) hp) (by decide)⟩
theorem Pw.i64 {N:Nat} (h:Pw N) (n:Int):bits .and .i64 n ((N:Int)-1)=n%(N:Int):=by
 have h0:=h.pos;obtain⟨p,hp,rfl⟩:=h;rw[←Q6 (p:=p) om n,show((2 ^ p:Nat):Int)-1=((2 ^ p-1:Nat):Int) by omega]
theorem Pw.u64 {N:Nat} (h:Pw N) (n:Int):bits .and .u64 n ((N:Int)-1)=n%(N:Int):=by
 have h0:=h.pos;obtain⟨p,hp,rfl⟩:=h;rw[←Oj (p:=p) om n,show((2 ^ p:Nat):Int)-1=((2 ^ p-1:Nat):Int) by omega]
end Go.Proofs.YtpaeogglppampaaGreatDoor
