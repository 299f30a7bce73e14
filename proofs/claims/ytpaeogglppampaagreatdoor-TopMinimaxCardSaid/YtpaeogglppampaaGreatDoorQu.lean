/- Lemmas of the proof. Conditions: as each one states. -/
import Derived.Test.YtpaeogglppampaaGreatDoorQk
import Derived.Test.YtpaeogglppampaaGreatDoorQq
set_option maxRecDepth 100000
set_option maxHeartbeats 16000000
namespace Go.Proofs.YtpaeogglppampaaGreatDoor
open Go.RowKit
def pvI (n:Nat):Option Nat→Int
 |none=>-1
 |some i=>((n+i:Nat):Int)
def pT (E:List Ed) (f:List Nat) (n:Nat):List Int:=(List.range (n+f.length)).map λx=>pvI n (pk E f n f.length x)
def hT (E:List Ed) (f:List Nat) (n:Nat):List Int:=(List.range (n+f.length)).map λx=>hgt E f n x
section
variable {E:List Ed} {f:List Nat} {n x u k j i:Nat}
theorem cK (E:List Ed) (f:List Nat) (n:Nat):(pT E f n).length=n+f.length:=by simp[pT]
theorem GK (E:List Ed) (f:List Nat) (n:Nat):(hT E f n).length=n+f.length:=by simp[hT]
theorem PY (h:x<n+f.length):nth (pT E f n) x=pvI n (pk E f n f.length x):=by simp[nth,pT,h]
theorem uN (h:x<n+f.length):nth (hT E f n) x=hgt E f n x:=by simp[nth,hT,h]
theorem Jk (h:x<n+f.length):pa (pT E f n) x=(pk E f n f.length x).map (n+·):=by
 have e:(pT E f n)[x]?=some (pvI n (pk E f n f.length x)):=by simp[pT,h]
 cases hp:pk E f n f.length x with
 |none=>
  rw[hp] at e
  have hl:x<(pT E f n).length:=by rw[cK];exact h
  rw[Option.map_none,Jj hl];rw[List.getElem?_eq_getElem hl] at e;rw[Option.some.inj e];exact(by decide:(-1:Int)<0)
 |some i=>rw[hp] at e;rw[Option.map_some,AY,e];rfl
theorem FT (h:pk E f n f.length x=none) (hx:x<n+f.length):pa (pT E f n) x=none:=by rw[Jk hx,h];rfl
theorem qI (h:pk E f n f.length x=some i) (hx:x<n+f.length):pa (pT E f n) x=some (n+i):=by rw[Jk hx,h];rfl
theorem Fo.tree (F:Fo n E f):Tree (pT E f n):=by
 refine Ay (λv=>n+f.length-v) λv u h=>?_;have hv:=zD h;rw[cK] at hv;rw[Jk hv] at h
 cases hp:pk E f n f.length v with
 |none=>rw[hp] at h;cases h
 |some i=>
  rw[hp] at h
  have e:n+i=u:=by simpa using h
  have h1:=wN F (Nat.le_refl _) hp;have h2:=uX hp;rw[cK];omega
theorem Fo.newE (F:Fo n E f) (h:n+f.length≤8192):newE (pT E f n)=0:=by
 unfold Go.Proofs.YtpaeogglppampaaGreatDoor.newE
 have h1:LZ (pT E f n)=true:=sO.2 λi hi=>by
  rw[cK] at hi;rw[PY hi,cK]
  cases hp:pk E f n f.length i with
  |none=>show -1≤(-1:Int)∧(-1:Int)<((n+f.length:Nat):Int);omega
  |some j=>have:=uX hp;show -1≤((n+j:Nat):Int)∧((n+j:Nat):Int)<((n+f.length:Nat):Int);omega
 rw[if_neg (by rw[cK];omega),h1,zq.2 F.tree];rfl
theorem xW {θ:Int} (F:Fo n E f) (hk:k≤f.length) (hh:∀i<f.length,(hgt E f n (n+i)≤θ↔i<k)) (hu:u<n):iD (pT E f n) (hT E f n) θ u=nd E f n k (bW E f k u):=by
 have key:∀(N j:Nat),j≤k→n+f.length-nd E f n j (bW E f j u)=N→iD (pT E f n) (hT E f n) θ (nd E f n j (bW E f j u))=nd E f n k (bW E f k u):=by
  intro N
  induction N using Nat.strongRecOn with
  |ind N ih=>
   intro j hj hN;have hla:bW E f j u<n:=Nat.lt_of_le_of_lt (kT _ _ _ _) hu;have hx:nd E f n j (bW E f j u)<n+f.length:=oC (lH (E:=E) (f:=f) (i:=j) hla)
   cases hp:pk E f n f.length (nd E f n j (bW E f j u)) with
   |none=>
    rw[mK (by unfold onward;rw[FT hp hx])]
    exact IG F hk hu hj λi hi=>by rw[hp] at hi;cases hi
   |some i=>
    have hif:=uX hp
    by_cases hik:i<k
    ·have h1:onward (pT E f n) (hT E f n) θ (nd E f n j (bW E f j u))=true:=by
      unfold onward;rw[qI hp hx];simp only[decide_eq_true_eq];rw[uN om];exact(hh i hif).2 hik
     obtain⟨y,hy,_,_,e⟩:=tK F.tree (by rw[cK];exact hx) h1;rw[qI hp hx] at hy;cases hy;have hw:=Ye F hu om hp;have hb:=wN F (Nat.le_refl _) hp;rw[e,hw];exact ih _ (by rw[←hw];omega) (i+1) hik rfl
    ·have h1:onward (pT E f n) (hT E f n) θ (nd E f n j (bW E f j u))=false:=by
      unfold onward;rw[qI hp hx];simp only[decide_eq_false_iff_not];rw[uN om,hh i hif];exact hik
     rw[mK h1]
     exact IG F hk hu hj λa ha=>by rw[hp] at ha;cases ha;omega
 have:=key _ 0 (Nat.zero_le _) rfl
 rwa [nU] at this
theorem Q5 (hu:u<n):vK (pT E f n) u=true:=fJ.2 ⟨u,rfl,by rw[cK];omega⟩
theorem EN (hu:u<n):T9 (pT E f n) u (hT E f n)=0:=by unfold T9;rw[if_pos (Q5 hu),GK,cK,if_pos rfl]
theorem Sv {θ:Int} (hu:u<n):TY (pT E f n) u (hT E f n) θ=iD (pT E f n) (hT E f n) θ u:=by unfold TY;rw[if_pos (EN hu)];rfl
end
def yC (E:List Ed) (f:List Nat) (n i y:Nat):Int:=if n≤y∧y<n+i then((nd E f n (y-n) (mA E f (y-n)):Nat):Int) else -1
def uj (E:List Ed) (f:List Nat) (n i y:Nat):Int:=if n≤y∧y<n+i then((nd E f n (y-n) (mB E f (y-n)):Nat):Int) else -1
def stP (E:List Ed) (f:List Nat) (n i y:Nat):Int:=pvI n (pk E f n i y)
def gX (E:List Ed) (f:List Nat) (n i y:Nat):Int:=if n≤y∧y<n+i then(aR E (f.getD (y-n) 0)).w else 0
def wJ (E:List Ed) (f:List Nat) (n i y:Nat):Int:=if y<n+i then((nJ E f n y:Nat):Int) else 0
section
variable {E:List Ed} {f:List Nat} {n i y:Nat}
theorem OO:yC E f n 0 y=-1:=by unfold yC;rw[if_neg om]
theorem OE:uj E f n 0 y=-1:=by unfold uj;rw[if_neg om]
theorem OL:stP E f n 0 y=-1:=rfl
theorem Df:gX E f n 0 y=0:=by unfold gX;rw[if_neg om]
theorem OB:wJ E f n 0 y=if y<n then 1 else 0:=by
 unfold wJ
 by_cases h:y<n
 ·rw[if_pos h,if_pos om,wI h];rfl
 ·rw[if_neg h,if_neg om]
theorem OA {c:Prop} [Decidable c] {a b:Int}:(if n≤y∧y<n+(i+1) then a else b)=if y=n+i then a else if n≤y∧y<n+i then a else b:=by
 by_cases h:y=n+i
 ·rw[if_pos h,if_pos om]
 ·rw[if_neg h]
  by_cases h2:n≤y∧y<n+i
  ·rw[if_pos h2,if_pos om]
  ·rw[if_neg h2,if_neg om]
theorem OP:(if y=n+i then((nd E f n i (mA E f i):Nat):Int) else yC E f n i y)=yC E f n (i+1) y:=by
 unfold yC;rw[OA (c:=True)]
 by_cases h:y=n+i
 ·rw[if_pos h,if_pos h,h,Nat.add_sub_cancel_left]
 ·rw[if_neg h,if_neg h]
theorem OG:(if y=n+i then((nd E f n i (mB E f i):Nat):Int) else uj E f n i y)=uj E f n (i+1) y:=by
 unfold uj;rw[OA (c:=True)]
 by_cases h:y=n+i
 ·rw[if_pos h,if_pos h,h,Nat.add_sub_cancel_left]
 ·rw[if_neg h,if_neg h]
theorem OT:(if y=n+i then(aR E (f.getD i 0)).w else gX E f n i y)=gX E f n (i+1) y:=by
 unfold gX;rw[OA (c:=True)]
 by_cases h:y=n+i
 ·rw[if_pos h,if_pos h,h,Nat.add_sub_cancel_left]
 ·rw[if_neg h,if_neg h]
theorem OC:(if y=n+i then((nJ E f n (n+i):Nat):Int) else wJ E f n i y)=wJ E f n (i+1) y:=by
 unfold wJ
 by_cases h:y=n+i
 ·rw[if_pos h,if_pos om,h]
 ·rw[if_neg h]
  by_cases h2:y<n+i
  ·rw[if_pos h2,if_pos om]
  ·rw[if_neg h2,if_neg om]
theorem OM:(if y=nd E f n i (mB E f i) then((n+i:Nat):Int) else if y=nd E f n i (mA E f i) then((n+i:Nat):Int) else stP E f n i y)=stP E f n (i+1) y:=by
 unfold stP;rw[pk]
 by_cases h:y=nd E f n i (mB E f i)
 ·rw[if_pos h,if_pos (.inl h)];rfl
 ·rw[if_neg h]
  by_cases h2:y=nd E f n i (mA E f i)
  ·rw[if_pos h2,if_pos (.inr h2)];rfl
  ·rw[if_neg h2,if_neg (by rintro(c |c);exact h c;exact h2 c)]
theorem Vb {a:Nat}:(if a=mA E f i then n+i else nd E f n i a)=nd E f n (i+1) a:=rfl
end
end Go.Proofs.YtpaeogglppampaaGreatDoor
