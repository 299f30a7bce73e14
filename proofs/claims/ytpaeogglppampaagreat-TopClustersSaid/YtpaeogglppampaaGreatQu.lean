/- Lemmas of the proof. Conditions: as each one states. -/
import Derived.Test.YtpaeogglppampaaGreatQk
import Derived.Test.YtpaeogglppampaaGreatQq
set_option maxRecDepth 100000
set_option maxHeartbeats 16000000
namespace Go.Proofs.YtpaeogglppampaaGreat
open Go.RowKit
def pvI (n:Nat):Option Nat→Int
 |none=>-1
 |some i=>((n+i:Nat):Int)
def pT (E:List Ed) (f:List Nat) (n:Nat):List Int:=(List.range (n+f.length)).map λx=>pvI n (pk E f n f.length x)
def hT (E:List Ed) (f:List Nat) (n:Nat):List Int:=(List.range (n+f.length)).map λx=>hgt E f n x
section
variable {E:List Ed} {f:List Nat} {n x u k j i:Nat}
theorem jB (E:List Ed) (f:List Nat) (n:Nat):(pT E f n).length=n+f.length:=by simp[pT]
theorem Ib (E:List Ed) (f:List Nat) (n:Nat):(hT E f n).length=n+f.length:=by simp[hT]
theorem Qs (h:x<n+f.length):nth (pT E f n) x=pvI n (pk E f n f.length x):=by simp[nth,pT,h]
theorem Ia (h:x<n+f.length):nth (hT E f n) x=hgt E f n x:=by simp[nth,hT,h]
theorem Qr (h:x<n+f.length):pa (pT E f n) x=(pk E f n f.length x).map (n+·):=by
 have e:(pT E f n)[x]?=some (pvI n (pk E f n f.length x)):=by simp[pT,h]
 cases hp:pk E f n f.length x with
 |none=>
  rw[hp] at e
  have hl:x<(pT E f n).length:=by rw[jB];exact h
  rw[Option.map_none,JH hl];rw[List.getElem?_eq_getElem hl] at e;rw[Option.some.inj e];exact(by decide:(-1:Int)<0)
 |some i=>rw[hp] at e;rw[Option.map_some,Bh,e];rfl
theorem Gt (h:pk E f n f.length x=none) (hx:x<n+f.length):pa (pT E f n) x=none:=by rw[Qr hx,h];rfl
theorem qE (h:pk E f n f.length x=some i) (hx:x<n+f.length):pa (pT E f n) x=some (n+i):=by rw[Qr hx,h];rfl
theorem Fo.tree (F:Fo n E f):Tree (pT E f n):=by
 refine AP (λv=>n+f.length-v) λv u h=>?_;have hv:=Ea h;rw[jB] at hv;rw[Qr hv] at h
 cases hp:pk E f n f.length v with
 |none=>rw[hp] at h;cases h
 |some i=>
  rw[hp] at h
  have e:n+i=u:=by simpa using h
  have h1:=rJ F (Nat.le_refl _) hp;have h2:=rH hp;rw[jB];omega
theorem Fo.newE (F:Fo n E f) (h:n+f.length≤8192):newE (pT E f n)=0:=by
 unfold Go.Proofs.YtpaeogglppampaaGreat.newE
 have h1:MQ (pT E f n)=true:=sK.2 λi hi=>by
  rw[jB] at hi;rw[Qs hi,jB]
  cases hp:pk E f n f.length i with
  |none=>show -1≤(-1:Int)∧(-1:Int)<((n+f.length:Nat):Int);omega
  |some j=>have:=rH hp;show -1≤((n+j:Nat):Int)∧((n+j:Nat):Int)<((n+f.length:Nat):Int);omega
 rw[if_neg (by rw[jB];omega),h1,zB.2 F.tree];rfl
theorem Tp {θ:Int} (F:Fo n E f) (hk:k≤f.length) (hh:∀i<f.length,(hgt E f n (n+i)≤θ↔i<k)) (hu:u<n):ni (pT E f n) (hT E f n) θ u=nd E f n k (bR E f k u):=by
 have key:∀(N j:Nat),j≤k→n+f.length-nd E f n j (bR E f j u)=N→ni (pT E f n) (hT E f n) θ (nd E f n j (bR E f j u))=nd E f n k (bR E f k u):=by
  intro N
  induction N using Nat.strongRecOn with
  |ind N ih=>
   intro j hj hN;have hla:bR E f j u<n:=Nat.lt_of_le_of_lt (ou _ _ _ _) hu;have hx:nd E f n j (bR E f j u)<n+f.length:=oC (lF (E:=E) (f:=f) (i:=j) hla)
   cases hp:pk E f n f.length (nd E f n j (bR E f j u)) with
   |none=>
    rw[qO (by unfold onward;rw[Gt hp hx])]
    exact Jg F hk hu hj λi hi=>by rw[hp] at hi;cases hi
   |some i=>
    have hif:=rH hp
    by_cases hik:i<k
    ·have h1:onward (pT E f n) (hT E f n) θ (nd E f n j (bR E f j u))=true:=by
      unfold onward;rw[qE hp hx];simp only[decide_eq_true_eq];rw[Ia om];exact(hh i hif).2 hik
     obtain⟨y,hy,_,_,e⟩:=Fh F.tree (by rw[jB];exact hx) h1;rw[qE hp hx] at hy;cases hy;have hw:=ZF F hu om hp;have hb:=rJ F (Nat.le_refl _) hp;rw[e,hw];exact ih _ (by rw[←hw];omega) (i+1) hik rfl
    ·have h1:onward (pT E f n) (hT E f n) θ (nd E f n j (bR E f j u))=false:=by
      unfold onward;rw[qE hp hx];simp only[decide_eq_false_iff_not];rw[Ia om,hh i hif];exact hik
     rw[qO h1]
     exact Jg F hk hu hj λa ha=>by rw[hp] at ha;cases ha;omega
 have:=key _ 0 (Nat.zero_le _) rfl
 rwa [oq] at this
theorem Rw (hu:u<n):WQ (pT E f n) u=true:=J8.2 ⟨u,rfl,by rw[jB];omega⟩
theorem Fp (hu:u<n):UO (pT E f n) u (hT E f n)=0:=by unfold UO;rw[if_pos (Rw hu),Ib,jB,if_pos rfl]
theorem Tq {θ:Int} (hu:u<n):UN (pT E f n) u (hT E f n) θ=ni (pT E f n) (hT E f n) θ u:=by unfold UN;rw[if_pos (Fp hu)];rfl
end
def yH (E:List Ed) (f:List Nat) (n i y:Nat):Int:=if n≤y∧y<n+i then((nd E f n (y-n) (mA E f (y-n)):Nat):Int) else -1
def ug (E:List Ed) (f:List Nat) (n i y:Nat):Int:=if n≤y∧y<n+i then((nd E f n (y-n) (mB E f (y-n)):Nat):Int) else -1
def stP (E:List Ed) (f:List Nat) (n i y:Nat):Int:=pvI n (pk E f n i y)
def iw (E:List Ed) (f:List Nat) (n i y:Nat):Int:=if n≤y∧y<n+i then(aO E (f.getD (y-n) 0)).w else 0
def wM (E:List Ed) (f:List Nat) (n i y:Nat):Int:=if y<n+i then((nK E f n y:Nat):Int) else 0
section
variable {E:List Ed} {f:List Nat} {n i y:Nat}
theorem Pp:yH E f n 0 y=-1:=by unfold yH;rw[if_neg om]
theorem Ph:ug E f n 0 y=-1:=by unfold ug;rw[if_neg om]
theorem Pn:stP E f n 0 y=-1:=rfl
theorem Dx:iw E f n 0 y=0:=by unfold iw;rw[if_neg om]
theorem Pe:wM E f n 0 y=if y<n then 1 else 0:=by
 unfold wM
 by_cases h:y<n
 ·rw[if_pos h,if_pos om,wL h];rfl
 ·rw[if_neg h,if_neg om]
theorem Pd {c:Prop} [Decidable c] {a b:Int}:(if n≤y∧y<n+(i+1) then a else b)=if y=n+i then a else if n≤y∧y<n+i then a else b:=by
 by_cases h:y=n+i
 ·rw[if_pos h,if_pos om]
 ·rw[if_neg h]
  by_cases h2:n≤y∧y<n+i
  ·rw[if_pos h2,if_pos om]
  ·rw[if_neg h2,if_neg om]
theorem Pq:(if y=n+i then((nd E f n i (mA E f i):Nat):Int) else yH E f n i y)=yH E f n (i+1) y:=by
 unfold yH;rw[Pd (c:=True)]
 by_cases h:y=n+i
 ·rw[if_pos h,if_pos h,h,Nat.add_sub_cancel_left]
 ·rw[if_neg h,if_neg h]
theorem Pj:(if y=n+i then((nd E f n i (mB E f i):Nat):Int) else ug E f n i y)=ug E f n (i+1) y:=by
 unfold ug;rw[Pd (c:=True)]
 by_cases h:y=n+i
 ·rw[if_pos h,if_pos h,h,Nat.add_sub_cancel_left]
 ·rw[if_neg h,if_neg h]
theorem Pv:(if y=n+i then(aO E (f.getD i 0)).w else iw E f n i y)=iw E f n (i+1) y:=by
 unfold iw;rw[Pd (c:=True)]
 by_cases h:y=n+i
 ·rw[if_pos h,if_pos h,h,Nat.add_sub_cancel_left]
 ·rw[if_neg h,if_neg h]
theorem Pf:(if y=n+i then((nK E f n (n+i):Nat):Int) else wM E f n i y)=wM E f n (i+1) y:=by
 unfold wM
 by_cases h:y=n+i
 ·rw[if_pos h,if_pos om,h]
 ·rw[if_neg h]
  by_cases h2:y<n+i
  ·rw[if_pos h2,if_pos om]
  ·rw[if_neg h2,if_neg om]
theorem Po:(if y=nd E f n i (mB E f i) then((n+i:Nat):Int) else if y=nd E f n i (mA E f i) then((n+i:Nat):Int) else stP E f n i y)=stP E f n (i+1) y:=by
 unfold stP;rw[pk]
 by_cases h:y=nd E f n i (mB E f i)
 ·rw[if_pos h,if_pos (.inl h)];rfl
 ·rw[if_neg h]
  by_cases h2:y=nd E f n i (mA E f i)
  ·rw[if_pos h2,if_pos (.inr h2)];rfl
  ·rw[if_neg h2,if_neg (by rintro(c |c);exact h c;exact h2 c)]
theorem VZ {a:Nat}:(if a=mA E f i then n+i else nd E f n i a)=nd E f n (i+1) a:=rfl
end
end Go.Proofs.YtpaeogglppampaaGreat
