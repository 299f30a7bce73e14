/- Lemmas of the proof. Conditions: as each one states. -/
import Derived.Lib.Hide
import Derived.Calls
set_option maxRecDepth 100000
set_option maxHeartbeats 16000000
namespace Go.Proofs.YtpaeogglppampaaGreatDoor
open Go.RowKit
theorem om {p:Prop} (h:p:=by omega):p:=h
theorem sj {p:Prop} (h:p:=by simp):p:=h
theorem oC {a p:Prop} (h:a) (k:a→p:=by intros;omega):p:=k h
theorem oD {a b p:Prop} (h:a) (i:b) (k:a→b→p:=by intros;omega):p:=k h i
theorem oF {a b c p:Prop} (h:a) (i:b) (j:c) (k:a→b→c→p:=by intros;omega):p:=k h i j
theorem oH {a b c d p:Prop} (h:a) (i:b) (j:c) (l:d) (k:a→b→c→d→p:=by intros;omega):p:=k h i j l
theorem nE {α:Sort _} (a:α):∃x,a=x:=⟨a,rfl⟩
theorem nG {α:Sort _} (a:α):∃x,x=a:=⟨a,rfl⟩
theorem dP {p:Prop} [Decidable p] (h:p):decide p=true:=decide_eq_true h
theorem dF {p:Prop} [Decidable p] (h:¬p):decide p=false:=decide_eq_false h
theorem jh {p:Prop} (h:p):Hid p:=Lib.hid h
theorem lC {p:Prop} (h:p:=by intro i hi;rcases i with _ |_ |_ |_ |_ |_ |_ |_ |_ |_ |_ |_ |_ |_ |_<;>first |rfl |(exfalso;omega)):p:=h
theorem sD:(∀{α:Type} {l:List α} {i:Nat} {a:α},l.toArray.setIfInBounds i a=(l.set i a).toArray)∧(∀{α:Type} {x:α} {xs:List α} {a:α},(x::xs).set 0 a=a::xs)∧(∀{α:Type} {x:α} {xs:List α} {n:Nat} {a:α},(x::xs).set (n+1) a=x::xs.set n a):=⟨by simp,rfl,rfl⟩
theorem mO {P:Program} {f:FuncId} {args:Array Value} {w:World} {R R':Ending→World→Prop} (h:Hid (Calls P f args w R)) (k:∀e w',R e w'→R' e w'):Calls P f args w R':=h.out.mono k
structure Ed where
 u:Int
 v:Int
 w:Int
def ed0:Ed:=⟨0,0,0⟩
def aR (E:List Ed) (i:Nat):Ed:=E.getD i ed0
def vO (n:Int) (e:Ed):Bool:=decide (e.u<0∨n≤e.u∨e.v<0∨n≤e.v)
def jk (n:Int):List Ed→Int
 |[]=>0
 |e::l=>if vO n e then 3 else if e.u=e.v then 9 else jk n l
def j5 (n:Int) (E:List Ed):Int:=if n<0∨4096<n∨16384<E.length then 2 else jk n E
structure tZ (n:Nat) (E:List Ed):Prop where
 qK:n≤4096
 Gh:E.length≤16384
 ends:∀i<E.length,0≤(aR E i).u∧(aR E i).u<n∧0≤(aR E i).v∧(aR E i).v<n∧(aR E i).u≠(aR E i).v
theorem G7 {E:List Ed} {i:Nat} (h:i<E.length):aR E i=E[i]:=by simp[aR,List.getD,h]
theorem RX {E:List Ed} {k:Nat} (h:k<E.length):E.drop k=aR E k::E.drop (k+1):=by
 rw[G7 h,List.drop_eq_getElem_cons h]
theorem qF {n:Int} {E:List Ed} {k:Nat} (h:k<E.length):jk n (E.drop k)=if vO n (aR E k) then 3 else if (aR E k).u=(aR E k).v then 9 else jk n (E.drop (k+1)):=by
 rw[RX h];rfl
theorem K7 {n:Int} {E:List Ed}:jk n (E.drop E.length)=0:=by simp[jk]
theorem K8 {n:Int} {E:List Ed} {k:Nat} (h:k<E.length) (hb:vO n (aR E k)=true):jk n (E.drop k)=3:=by rw[qF h,if_pos hb]
theorem FK {n:Int} {E:List Ed} {k:Nat} (h:k<E.length) (hb:vO n (aR E k)=false) (he:(aR E k).u=(aR E k).v):jk n (E.drop k)=9:=by
 rw[qF h,hb];simp[he]
theorem FJ {n:Int} {E:List Ed} {k:Nat} (h:k<E.length) (hb:vO n (aR E k)=false) (he:(aR E k).u≠(aR E k).v):jk n (E.drop k)=jk n (E.drop (k+1)):=by
 rw[qF h,hb];simp[he]
theorem wL {n:Int}:∀{E:List Ed},jk n E=0→∀e∈E,vO n e=false∧e.u≠e.v
 |[],_,e,he=>by cases he
 |x::l,h,e,he=>by
  simp only[jk] at h
  split at h
  ·cases h
  ·rename_i hb
   split at h
   ·cases h
   ·rename_i hn
    rcases List.mem_cons.1 he with rfl |he
    ·exact⟨by simpa using hb,hn⟩
    ·exact wL h e he
theorem Dm {n:Int}:∀{E:List Ed},(∀e∈E,vO n e=false∧e.u≠e.v)→jk n E=0
 |[],_=>rfl
 |x::l,h=>by
  have h1:=h x sj;simp only[jk,h1.1,h1.2,Bool.false_eq_true,if_false];exact Dm λe he=>h e (by simp[he])
theorem xZ {n:Int} {e:Ed}:vO n e=false↔0≤e.u∧e.u<n∧0≤e.v∧e.v<n:=by
 simp only[vO,decide_eq_false_iff_not];omega
theorem zU {n:Int} {E:List Ed} (h:j5 n E=0):∃k:Nat,n=k∧tZ k E:=by
 unfold j5 at h
 split at h
 ·cases h
 ·rename_i hn;refine⟨n.toNat,om,om,om,λi hi=>?_⟩;have h1:=wL h (aR E i) (by rw[G7 hi];exact List.getElem_mem hi);have h2:=xZ.1 h1.1
  refine⟨h2.1,?_,h2.2.2.1,?_,h1.2⟩<;>omega
theorem sW {n:Nat} {E:List Ed} (h:tZ n E):j5 n E=0:=by
 have h1:=h.qK;have h2:=h.Gh;rw[j5,if_neg om];refine Dm λe he=>?_;obtain⟨i,hi,rfl⟩:=List.mem_iff_getElem.1 he;have h3:=h.ends i hi;rw[G7 hi] at h3;exact⟨xZ.2 ⟨h3.1,h3.2.1,h3.2.2.1,h3.2.2.2.1⟩,h3.2.2.2.2⟩
def inc (E:List Ed) (x i:Nat):Bool:=decide ((aR E i).u=x∨(aR E i).v=x)
def lT (E:List Ed) (k x:Nat):List Nat:=(List.range k).filter (inc E x)
def adj (E:List Ed) (x:Nat):List Nat:=lT E E.length x
def fZ (E:List Ed) (k x:Nat):Nat:=(lT E k x).length
def deg (E:List Ed) (x:Nat):Nat:=(adj E x).length
theorem yc (E:List Ed) (k x:Nat):lT E (k+1) x=if inc E x k then lT E k x++[k] else lT E k x:=by
 simp only[lT,List.range_succ,List.filter_append,List.filter_cons,List.filter_nil]
 by_cases h:inc E x k<;>simp[h]
theorem iT (E:List Ed) (k x:Nat):fZ E (k+1) x=if inc E x k then fZ E k x+1 else fZ E k x:=by
 unfold fZ;rw[yc];split<;>simp
theorem qR (E:List Ed) (x:Nat):fZ E 0 x=0:=rfl
theorem xR (E:List Ed) (x:Nat) {j k:Nat} (h:j≤k):fZ E j x≤fZ E k x:=by
 induction k with
 |zero=>rw[Nat.le_zero.1 h];exact Nat.le_refl _
 |succ k ih=>
  by_cases e:j=k+1
  ·rw[e];exact Nat.le_refl _
  ·have:=ih om
   rw[iT];split<;>omega
theorem pE (E:List Ed) (x:Nat):fZ E E.length x=deg E x:=rfl
theorem xS {E:List Ed} {x k:Nat} (hk:k<E.length) (hi:inc E x k=true):fZ E k x<deg E x:=by
 have h1:=xR E x (show k+1≤E.length by omega);rw[iT,if_pos hi,pE] at h1;omega
theorem Z8 (E:List Ed) (x:Nat):deg E x≤E.length:=by
 have:=List.length_filter_le (inc E x) (List.range E.length);simpa [deg,adj,lT] using this
def pre (E:List Ed):Nat→Nat
 |0=>0
 |x+1=>pre E x+deg E x
theorem Dx (E:List Ed) {x y:Nat} (h:x≤y):pre E x≤pre E y:=by
 induction y with
 |zero=>rw[Nat.le_zero.1 h];exact Nat.le_refl _
 |succ y ih=>
  by_cases e:x=y+1
  ·rw[e];exact Nat.le_refl _
  ·have:=ih om;simp only[pre];omega
theorem FP {E:List Ed} {x y i:Nat} (h:x<y) (hi:i<deg E x):pre E x+i<pre E y:=by
 have:=Dx E (show x+1≤y from h);simp only[pre] at this;omega
theorem UW {E:List Ed} {x y i j:Nat} (h:x≠y) (hi:i<deg E x) (hj:j<deg E y):pre E x+i≠pre E y+j:=by
 rcases Nat.lt_or_gt_of_ne h with h |h
 ·have:=FP h hi;omega
 ·have:=FP h hj;omega
def sumTo (E:List Ed) (k:Nat):Nat→Nat
 |0=>0
 |x+1=>sumTo E k x+fZ E k x
theorem KD (E:List Ed) (y:Nat):sumTo E E.length y=pre E y:=by
 induction y with
 |zero=>rfl
 |succ y ih=>simp only[sumTo,pre,ih,pE]
theorem FC (E:List Ed) (y:Nat):sumTo E 0 y=0:=by
 induction y with
 |zero=>rfl
 |succ y ih=>simp only[sumTo,ih,qR]
theorem FD {E:List Ed} {k u v:Nat} (hu:(aR E k).u=u) (hv:(aR E k).v=v) (hn:u≠v) (y:Nat):sumTo E (k+1) y=sumTo E k y+(if u<y then 1 else 0)+(if v<y then 1 else 0):=by
 induction y with
 |zero=>simp[sumTo]
 |succ y ih=>
  simp only[sumTo,ih,iT,inc,hu,hv,decide_eq_true_eq]
  repeat' split
  all_goals omega
theorem tZ.Gc {n:Nat} {E:List Ed} (G:tZ n E) {k:Nat} (hk:k<E.length):∃u v:Nat,(aR E k).u=u∧(aR E k).v=v∧u<n∧v<n∧u≠v:=by
 have h:=G.ends k hk;exact⟨(aR E k).u.toNat,(aR E k).v.toNat,om,om,om,om,om⟩
theorem tZ.sum {n:Nat} {E:List Ed} (G:tZ n E) {k:Nat} (hk:k≤E.length):sumTo E k n=2*k:=by
 induction k with
 |zero=>rw[FC]
 |succ k ih=>
  obtain⟨u,v,hu,hv,h1,h2,h3⟩:=G.Gc (show k<E.length by omega);rw[FD hu hv h3,ih om,if_pos h1,if_pos h2];omega
theorem tZ.Xk {n:Nat} {E:List Ed} (G:tZ n E):pre E n=2*E.length:=by rw[←KD,G.sum (Nat.le_refl _)]
theorem tZ.Yy {n:Nat} {E:List Ed} (G:tZ n E) {x:Nat} (h:x≤n):pre E x≤2*E.length:=by have:=Dx E h;rw[G.Xk] at this;exact this
def cntF (E:List Ed) (k:Nat):Nat→Nat
 |0=>0
 |x+1=>fZ E k x
theorem cntF_step {E:List Ed} {k u v:Nat} (hu:(aR E k).u=u) (hv:(aR E k).v=v) (hn:u≠v) (x:Nat):
  cntF E (k+1) x=if x=v+1 then cntF E k (v+1)+1 else if x=u+1 then cntF E k (u+1)+1 else cntF E k x:=by
 cases x with
 |zero=>simp[cntF]
 |succ x=>
  simp only[cntF,iT,inc,hu,hv,decide_eq_true_eq,Nat.add_right_cancel_iff]
  by_cases h1:x=v
  ·subst h1;simp
  ·by_cases h2:x=u
   ·subst h2;simp[h1]
   ·rw[if_neg h1,if_neg h2,if_neg om]
theorem MR (E:List Ed) (x:Nat):cntF E 0 x=0:=by cases x<;>rfl
def pfx (E:List Ed) (k x:Nat):Nat:=if x≤k then pre E x else cntF E E.length x
theorem PU (E:List Ed) (x:Nat):pfx E 0 x=cntF E E.length x:=by
 unfold pfx;split
 ·rename_i h;rw[Nat.le_zero.1 h];rfl
 ·rfl
theorem PV (E:List Ed) (k x:Nat):pfx E (k+1) x=if x=k+1 then pfx E k (k+1)+pfx E k k else pfx E k x:=by
 unfold pfx
 by_cases h:x=k+1
 ·subst h;rw[if_pos (Nat.le_refl _),if_pos rfl,if_neg om,if_pos (Nat.le_refl _)];simp only[pre,cntF,pE];omega
 ·rw[if_neg h]
  by_cases h2:x≤k
  ·rw[if_pos h2,if_pos om]
  ·rw[if_neg h2,if_neg om]
theorem U5 {E:List Ed} {n x:Nat} (h:x≤n):pfx E n x=pre E x:=by rw[pfx,if_pos h]
theorem PW {n:Nat} {E:List Ed} (G:tZ n E) {k x:Nat} (hk:k≤n):pfx E k x≤32768:=by
 have hm:=G.Gh;unfold pfx;split
 ·rename_i h;have:=G.Yy (show x≤n by omega);omega
 ·cases x with
  |zero=>simp[cntF]
  |succ x=>have:=Z8 E x;simp only[cntF,pE];omega
theorem JY (E:List Ed) (k x:Nat):cntF E k x≤k:=by
 cases x with
 |zero=>simp[cntF]
 |succ x=>have:=List.length_filter_le (inc E x) (List.range k);simpa [cntF,fZ,lT] using this
def qZ (E:List Ed) (k x:Nat):Nat:=pre E x+fZ E k x
theorem Qe (E:List Ed) (x:Nat):qZ E 0 x=pre E x:=by simp[qZ,qR]
theorem Qf {E:List Ed} {k u v:Nat} (hu:(aR E k).u=u) (hv:(aR E k).v=v) (x:Nat):
  qZ E (k+1) x=if x=v then qZ E k v+1 else if x=u then qZ E k u+1 else qZ E k x:=by
 simp only[qZ,iT,inc,hu,hv,decide_eq_true_eq]
 by_cases h1:x=v
 ·subst h1;simp;omega
 ·by_cases h2:x=u
  ·subst h2;simp[h1];omega
  ·rw[if_neg h1,if_neg h2,if_neg om]
theorem tZ.Qg {n:Nat} {E:List Ed} (G:tZ n E) {k x:Nat} (hk:k<E.length) (hx:x<n) (hi:inc E x k=true):qZ E k x<2*E.length:=by
 have h1:=xS hk hi;have h2:=FP (E:=E) hx h1;rw[G.Xk] at h2;exact h2
def WJ (E:List Ed) (n k:Nat) (f:Nat→Int):Prop:=∀x<n,∀j<fZ E k x,f (pre E x+j)=(lT E k x).getD j 0
theorem WJ.zero (E:List Ed) (n:Nat) (f:Nat→Int):WJ E n 0 f:=λx _ j hj=>by simp[qR] at hj
theorem Xr {E:List Ed} {k u:Nat} (hu:(aR E k).u=u):inc E u k=true:=by simp[inc,hu]
theorem Xq {E:List Ed} {k v:Nat} (hv:(aR E k).v=v):inc E v k=true:=by simp[inc,hv]
theorem WJ.step {E:List Ed} {n k u v:Nat} {f:Nat→Int} (L:WJ E n k f) (hk:k<E.length) (hu:(aR E k).u=u) (hv:(aR E k).v=v):
  WJ E n (k+1) (λq=>if q=qZ E k v then(k:Int) else if q=qZ E k u then(k:Int) else f q):=by
 intro x hx j hj;have du:=xS hk (Xr hu);have dv:=xS hk (Xq hv);have hxl:fZ E (k+1) x≤deg E x:=xR E x (show k+1≤E.length by omega);have Zn:=yc E k x;have Zl:=iT E k x;dsimp only
 by_cases hlt:j<fZ E k x
 ·have e1:(lT E (k+1) x).getD j 0=(lT E k x).getD j 0:=by
   rw[Zn];split
   ·simp only[List.getD,List.getElem?_append_left (show j<(lT E k x).length from hlt)]
   ·rfl
  rw[e1,←L x hx j hlt]
  have n1:∀y,(y=u∨y=v)→fZ E k y<deg E y→pre E x+j≠qZ E k y:=λy _ hy=>by
   by_cases h:x=y
   ·subst h;unfold qZ;omega
   ·exact UW h om hy
  rw[if_neg (n1 v (.inr rfl) dv),if_neg (n1 u (.inl rfl) du)]
 ·have hi:inc E x k=true:=by
   cases h:inc E x k with
   |true=>rfl
   |false=>rw[h] at Zl;simp at Zl;omega
  rw[if_pos hi] at Zl Zn;obtain rfl:j=fZ E k x:=om;rw[Zn]
  have e2:(lT E k x++[k]).getD (fZ E k x) 0=k:=by simp[fZ]
  rw[e2];simp only[inc,hu,hv,decide_eq_true_eq] at hi
  rcases hi with h |h
  ·have:u=x:=om;subst this
   by_cases hq:pre E u+fZ E k u=qZ E k v
   ·rw[if_pos hq]
   ·rw[if_neg hq];exact if_pos rfl
  ·have:v=x:=om;subst this;exact if_pos rfl
def pa (p:List Int) (v:Nat):Option Nat:=
 match p[v]? with
 |some (.ofNat u)=>some u
 |_=>none
def aL (p:List Int):Nat→Nat→Option Nat
 |0,v=>some v
 |k+1,v=>(aL p k v).bind (pa p)
def oi:Option Nat→Int
 |none=>-1
 |some u=>u
def Cy (p:List Int):Nat→Nat→Nat
 |0,_=>0
 |f+1,v=>match pa p v with
  |none=>0
  |some u=>Cy p f u+1
def dp (p:List Int) (v:Nat):Nat:=Cy p p.length v
structure fE (p:List Int) (d:Nat→Nat):Prop where
 rng:∀v u,v<p.length→pa p v=some u→u<p.length
 up:∀v u,v<p.length→pa p v=some u→d v=d u+1
 root:∀v<p.length,pa p v=none→d v=0
theorem AY {p:List Int} {v u:Nat}:pa p v=some u↔p[v]?=some (u:Int):=by
 unfold pa
 split
 ·rename_i w h;rw[h];simp only[Option.some.injEq,Int.ofNat_eq_natCast];omega
 ·rename_i h;constructor
  ·intro h';cases h'
  ·intro h';exact absurd h' (h u)
theorem zD {p:List Int} {v u:Nat} (h:pa p v=some u):v<p.length:=by
 rw[AY] at h;exact(List.getElem?_eq_some_iff.1 h).1
theorem Jj {p:List Int} {v:Nat} (hv:v<p.length):pa p v=none↔p[v]<0:=by
 unfold pa;rw[List.getElem?_eq_getElem hv]
 cases h:p[v] with
 |ofNat u=>simp
 |negSucc u=>simp
theorem acj {p:List Int} {v:Nat} (hv:v<p.length) (h:-1≤p[v]):oi (pa p v)=p[v]:=by
 by_cases h0:p[v]<0
 ·rw[(Jj hv).2 h0];simp only[oi];omega
 ·have:pa p v=some p[v].toNat:=by
   rw[AY,List.getElem?_eq_getElem hv];congr 1;omega
  rw[this];simp only[oi];omega
@[simp] theorem ad9 (p:List Int) (v:Nat):aL p 0 v=some v:=rfl
theorem lQ (p:List Int) (k v:Nat):aL p (k+1) v=(aL p k v).bind (pa p):=rfl
theorem jg (p:List Int) (j k v:Nat):aL p (j+k) v=(aL p j v).bind (aL p k):=by
 induction k with
 |zero=>cases aL p j v<;>rfl
 |succ k ih=>rw[←Nat.add_assoc,lQ,ih];cases aL p j v<;>simp[lQ]
theorem WB (p:List Int) (v:Nat):aL p 1 v=pa p v:=rfl
theorem pJ (p:List Int) (k v:Nat):aL p (k+1) v=(pa p v).bind (aL p k):=by
 rw[Nat.add_comm,jg,WB]
theorem pK {p:List Int} {d:Nat→Nat} (F:fE p d):∀k v u,v<p.length→aL p k v=some u→u<p.length∧d v=d u+k:=by
 intro k
 induction k with
 |zero=>intro v u hv h;simp at h;subst h;exact⟨hv,om⟩
 |succ k ih=>
  intro v u hv h;rw[lQ] at h
  cases hm:aL p k v with
  |none=>rw[hm] at h;cases h
  |some m=>
   rw[hm] at h;have⟨h1,h2⟩:=ih v m hv hm;have h3:pa p m=some u:=h;exact⟨F.rng m u h1 h3,oC (F.up m u h1 h3)⟩
theorem ou {p:List Int} {d:Nat→Nat} (F:fE p d):∀k v,v<p.length→k≤d v→∃u,aL p k v=some u:=by
 intro k
 induction k with
 |zero=>intro v _ _;exact⟨v,rfl⟩
 |succ k ih=>
  intro v hv hk;obtain⟨m,hm⟩:=ih v hv om;have⟨h1,h2⟩:=pK F k v m hv hm
  cases hp:pa p m with
  |none=>have:=F.root m h1 hp;omega
  |some u=>exact⟨u,by rw[lQ,hm];exact hp⟩
theorem lS {p:List Int} {d:Nat→Nat} (F:fE p d) {k v:Nat} (hv:v<p.length):aL p k v=none↔d v<k:=by
 constructor
 ·intro h
  by_cases hk:k≤d v
  ·obtain⟨u,hu⟩:=ou F k v hv hk;rw[h] at hu;cases hu
  ·omega
 ·intro h
  cases hu:aL p k v with
  |none=>rfl
  |some u=>have:=(pK F k v u hv hu).2;omega
theorem uR {p:List Int} {d:Nat→Nat} (F:fE p d) {k v u:Nat} (hv:v<p.length) (h:aL p k v=some u):u<p.length:=(pK F k v u hv h).1
theorem jr {p:List Int} {d:Nat→Nat} (F:fE p d) {k v u:Nat} (hv:v<p.length) (h:aL p k v=some u):d v=d u+k:=(pK F k v u hv h).2
theorem rV:∀(n:Nat) (l:List Nat),l.Nodup→(∀x∈l,x<n)→l.length≤n:=by
 intro n
 induction n with
 |zero=>intro l _ h;cases l with
  |nil=>simp
  |cons x t=>have:=h x sj;omega
 |succ n ih=>
  intro l hn h
  have h1:=ih (l.filter (·!=n)) (hn.filter _) (λx hx=>by
   rw[List.mem_filter] at hx;have h2:=h x hx.1;have h3:x≠n:=by simpa using hx.2
   omega)
  have h2:l.length≤(l.filter (·!=n)).length+1:=by
   have e:=@List.length_eq_countP_add_countP Nat (λx=>x !=n) l;rw[←List.countP_eq_length_filter]
   have:List.countP (λa=>decide ¬(a !=n)=true) l≤1:=by
    have h3:List.countP (λa=>decide ¬(a !=n)=true) l=l.count n:=by
     rw[List.count];apply List.countP_congr;intro x _;simp
    rw[h3];exact List.nodup_iff_count.1 hn n
   omega
  omega
def way (p:List Int) (v:Nat) (k:Nat):List Nat:=(List.range k).filterMap (λi=>aL p i v)
theorem mJ {p:List Int} {d:Nat→Nat} (F:fE p d) {v:Nat} (hv:v<p.length):d v<p.length:=by
 have hl:∀k≤d v+1,(way p v k).length=k:=by
  intro k hk;unfold way
  induction k with
  |zero=>rfl
  |succ k ih=>
   obtain⟨u,hu⟩:=ou F k v hv om;rw[List.range_succ,List.filterMap_append,List.length_append,ih om];simp[hu]
 have hn:(way p v (d v+1)).Nodup:=by
  unfold way;rw[List.Nodup,List.pairwise_filterMap];refine List.Pairwise.imp ?_ List.pairwise_lt_range;intro i j hij u hu w hw e;subst e;have h1:=jr F hv hu;have h2:=jr F hv hw;omega
 have:=rV p.length _ hn (λx hx=>by
  unfold way at hx;rw[List.mem_filterMap] at hx;obtain⟨i,_,hi⟩:=hx
  exact uR F hv hi)
 rw[hl (d v+1) om] at this;omega
theorem ZX {p:List Int} {d:Nat→Nat} (F:fE p d):∀f v,v<p.length→d v<f→Cy p f v=d v:=by
 intro f
 induction f with
 |zero=>intro v _ h;omega
 |succ f ih=>
  intro v hv h;rw[Cy]
  cases hp:pa p v with
  |none=>simp only;exact(F.root v hv hp).symm
  |some u=>
   have h1:=F.up v u hv hp;have h2:=F.rng v u hv hp;show Cy p f u+1=d v;rw[ih u h2 om,h1]
theorem JR {p:List Int} {d:Nat→Nat} (F:fE p d) {v:Nat} (hv:v<p.length):dp p v=d v:=ZX F _ v hv (mJ F hv)
theorem fE.dp {p:List Int} {d:Nat→Nat} (F:fE p d):fE p (dp p) where
 rng:=F.rng
 up:=λv u hv h=>by rw[JR F hv,JR F (F.rng v u hv h)];exact F.up v u hv h
 root:=λv hv h=>by rw[JR F hv];exact F.root v hv h
def Tree (p:List Int):Prop:=fE p (dp p)
theorem fE.tree {p:List Int} {d:Nat→Nat} (F:fE p d):Tree p:=F.dp
theorem Ay {p:List Int} (r:Nat→Nat) (hb:∀v u,pa p v=some u→u<p.length∧r u<r v):Tree p:=by
 have hF:∀N v,r v<N→∀f g,r v<f→r v<g→Cy p f v=Cy p g v:=by
  intro N
  induction N with
  |zero=>intro v h;omega
  |succ N ih=>
   intro v h f g hf hg
   cases f with
   |zero=>omega
   |succ f=>cases g with
    |zero=>omega
    |succ g=>
     rw[Cy,Cy]
     cases hp:pa p v with
     |none=>rfl
     |some u=>
      have h1:=(hb v u hp).2;show Cy p f u+1=Cy p g u+1;rw[ih u om f g om om]
 have F:fE p (λv=>Cy p (r v+1) v):=by
  refine⟨λv u _ h=>(hb v u h).1,λv u _ h=>?_,λv _ h=>?_⟩
  ·have h1:=(hb v u h).2;show Cy p (r v+1) v=_;rw[Cy,h];show Cy p (r v) u+1=Cy p (r u+1) u+1;rw[hF (r u+1) u om (r v) (r u+1) om om]
  ·show Cy p (r v+1) v=0;rw[Cy,h]
 exact F.tree
def mR (p:List Int):Bool:=(List.range p.length).all λv=>match pa p v with
 |none=>dp p v==0
 |some u=>decide (u<p.length)&&dp p v==dp p u+1
theorem zo {p:List Int} (h:mR p=true):Tree p:=by
 unfold mR at h;rw[List.all_eq_true] at h
 refine⟨λv u hv hp=>?_,λv u hv hp=>?_,λv hv hp=>?_⟩<;>
 ·have:=h v (by simpa using hv);rw[hp] at this;simp at this;omega
def bL (p:List Int) (x v:Nat):Bool:=(List.range (dp p v+1)).any λk=>aL p k v==some x
theorem aF {p:List Int} (F:Tree p) {x v:Nat} (hv:v<p.length):bL p x v=true↔∃k,aL p k v=some x:=by
 unfold bL;rw[List.any_eq_true];constructor
 ·rintro⟨k,_,h⟩;exact⟨k,by simpa using h⟩
 ·rintro⟨k,h⟩;refine⟨k,?_,by simpa using h⟩;have:=jr F hv h;simp;omega
theorem Gq {p:List Int} (F:Tree p) {x v:Nat} (hv:v<p.length):bL p x v=true↔dp p x≤dp p v∧aL p (dp p v-dp p x) v=some x:=by
 rw[aF F hv];constructor
 ·rintro⟨k,h⟩;have:=jr F hv h;refine⟨om,?_⟩;rw[show dp p v-dp p x=k from om];exact h
 ·rintro⟨_,h⟩;exact⟨_,h⟩
theorem sJ {p:List Int} (F:Tree p) {x v:Nat} (hv:v<p.length) (h:bL p x v=true):x<p.length:=by
 obtain⟨k,hk⟩:=(aF F hv).1 h;exact uR F hv hk
theorem kH {p:List Int} (F:Tree p) {x y v:Nat} (hv:v<p.length) (h:bL p x y=true) (h':bL p y v=true):bL p x v=true:=by
 have hy:=sJ F hv h';obtain⟨j,hj⟩:=(aF F hy).1 h;obtain⟨k,hk⟩:=(aF F hv).1 h';exact(aF F hv).2 ⟨k+j,by rw[jg,hk];exact hj⟩
theorem nV {p:List Int} (F:Tree p) {x y v:Nat} (hv:v<p.length) (hx:bL p x v=true) (hy:bL p y v=true) (h:dp p x≤dp p y):bL p x y=true:=by
 have hyl:=sJ F hv hy;obtain⟨j,hj⟩:=(aF F hv).1 hx;obtain⟨k,hk⟩:=(aF F hv).1 hy;have h1:=jr F hv hj;have h2:=jr F hv hk;refine(aF F hyl).2 ⟨j-k,?_⟩
 have h3:aL p (k+(j-k)) v=some x:=by rw[show k+(j-k)=j from om];exact hj
 rw[jg,hk] at h3;exact h3
theorem QX {p:List Int} (F:Tree p) {x y v:Nat} (hv:v<p.length) (hx:bL p x v=true) (hy:bL p y v=true) (h:dp p x=dp p y):x=y:=by
 obtain⟨j,hj⟩:=(aF F hv).1 hx;obtain⟨k,hk⟩:=(aF F hv).1 hy;have h1:=jr F hv hj;have h2:=jr F hv hk;obtain rfl:j=k:=om;rw[hj] at hk;exact Option.some.inj hk
theorem zQ {p:List Int} (F:Tree p) {x v:Nat} (hv:v<p.length) (hx:bL p x v=true):dp p x≤dp p v:=((Gq F hv).1 hx).1
def com (p:List Int) (a b:Nat):Option Nat:=(List.range (dp p a+1)).findSome? λk=>match aL p k a with
 |some x=>if bL p x b then some x else none
 |none=>none
theorem Sd {p:List Int} (F:Tree p) {a b c:Nat} (ha:a<p.length) (h1:bL p c a=true) (h2:bL p c b=true)
  (h3:∀x,bL p x a=true→bL p x b=true→dp p x≤dp p c):com p a b=some c:=by
 obtain⟨k,hk⟩:=(aF F ha).1 h1;have hd:=jr F ha hk;unfold com;rw[List.findSome?_eq_some_iff];refine⟨List.range k,k,List.map (k+1+·) (List.range (dp p a-k)),?_,?_,?_⟩
 ·rw[show dp p a+1=(k+1)+(dp p a-k) from om,List.range_add,List.range_succ,List.append_assoc];rfl
 ·rw[hk];simp[h2]
 ·intro i hi
  have hi:i<k:=by simpa using hi
  cases hx:aL p i a with
  |none=>rfl
  |some x=>
   by_cases hb:bL p x b=true
   ·have:=h3 x ((aF F ha).2 ⟨i,hx⟩) hb;have:=jr F ha hx;omega
   ·simp[hb]
theorem Si {p:List Int} (F:Tree p) {a b:Nat} (ha:a<p.length) (h:∀x,bL p x a=true→¬bL p x b=true):com p a b=none:=by
 unfold com;rw[List.findSome?_eq_none_iff];intro i _
 cases hx:aL p i a with
 |none=>rfl
 |some x=>simp[h x ((aF F ha).2 ⟨i,hx⟩)]
theorem Sc {p:List Int} (F:Tree p) {a b c:Nat} (ha:a<p.length) (h:com p a b=some c):
  bL p c a=true∧bL p c b=true∧∀x,bL p x a=true→bL p x b=true→bL p x c=true:=by
 unfold com at h;rw[List.findSome?_eq_some_iff] at h;obtain⟨l1,k,l2,he,hk,hl⟩:=h
 cases hx:aL p k a with
 |none=>rw[hx] at hk;cases hk
 |some x=>
  rw[hx] at hk
  by_cases hbx:bL p x b=true
  ·simp[hbx] at hk;subst hk;have hxa:=(aF F ha).2 ⟨k,hx⟩;refine⟨hxa,hbx,λy hya hyb=>?_⟩;refine nV F ha hya hxa ?_;obtain⟨j,hj⟩:=(aF F ha).1 hya;have d1:=jr F ha hj;have d2:=jr F ha hx
   have hln:l1.length=k:=by
    have:=congrArg (λl=>l[l1.length]?) he;simp only[List.getElem?_append_right (Nat.le_refl _),Nat.sub_self,List.getElem?_cons_zero] at this;rw[List.getElem?_eq_some_iff] at this;obtain⟨_,h'⟩:=this;simpa using h'
   by_cases hjk:j<k
   ·exfalso
    have hm:j∈l1:=by
     have h4:l1[j]?=some j:=by
      have:=congrArg (λl=>l[j]?) he;simp only[List.getElem?_append_left (show j<l1.length from om)] at this;rw[←this,List.getElem?_eq_some_iff]
      have:k∈List.range (dp p a+1):=by rw[he];simp
      have:k<dp p a+1:=by simpa using this
      exact⟨by simp;omega,sj⟩
     exact List.mem_of_getElem? h4
    have:=hl j hm;rw[hj] at this;simp[hyb] at this
   ·omega
  ·simp[hbx] at hk
theorem Hg {p:List Int} (F:Tree p) {a b x:Nat} (ha:a<p.length) (h1:bL p x a=true) (h2:bL p x b=true):∃c,com p a b=some c:=by
 cases h:com p a b with
 |some c=>exact⟨c,rfl⟩
 |none=>
  exfalso;unfold com at h;rw[List.findSome?_eq_none_iff] at h;obtain⟨k,hk⟩:=(aF F ha).1 h1;have hd:=jr F ha hk;have:=h k (by simp;omega);rw[hk] at this;simp[h2] at this
def dw (p:List Int) (k:Nat):List Nat:=(List.range k).filter λu=>pa p u==none
def gI (p:List Int) (k v:Nat):List Nat:=(List.range k).filter λu=>pa p u==some v
def kids (p:List Int) (v:Nat):List Nat:=gI p p.length v
theorem rM (p:List Int) (k:Nat):dw p (k+1)=if pa p k=none then dw p k++[k] else dw p k:=by
 simp only[dw,List.range_succ,List.filter_append,List.filter_cons,List.filter_nil]
 by_cases h:pa p k=none<;>simp[h]
theorem uZ (p:List Int) (k v:Nat):gI p (k+1) v=if pa p k=some v then gI p k v++[k] else gI p k v:=by
 simp only[gI,List.range_succ,List.filter_append,List.filter_cons,List.filter_nil]
 by_cases h:pa p k=some v<;>simp[h]
theorem Dt (p:List Int) (k:Nat):(dw p k).length≤k:=by
 have:=List.length_filter_le (λu=>pa p u==none) (List.range k);simpa [dw] using this
theorem xu (p:List Int) (k v:Nat):(gI p k v).length≤k:=by
 have:=List.length_filter_le (λu=>pa p u==some v) (List.range k);simpa [gI] using this
theorem rW {p:List Int} {v u:Nat}:u∈kids p v↔pa p u=some v:=by
 simp only[kids,gI,List.mem_filter,List.mem_range,beq_iff_eq];exact⟨λh=>h.2,λh=>⟨zD h,h⟩⟩
theorem xq (p:List Int) (v:Nat):(kids p v).Nodup:=List.nodup_range.filter _
structure IE (p:List Int) (i:Nat) (Q:List Nat):Prop where
 nodup:Q.Nodup
 lt:∀u∈Q,u<p.length
 le:i≤Q.length
 root:∀u<p.length,pa p u=none→u∈Q
 kid:∀u x,pa p u=some x→(u∈Q↔x∈Q.take i)
theorem IE.start (p:List Int):IE p 0 (dw p p.length) where
 nodup:=List.nodup_range.filter _
 lt:=λu h=>by simp[dw] at h;exact h.1
 le:=Nat.zero_le _
 root:=λu h h'=>by simp[dw,h,h']
 kid:=λu x h=>by simp[dw,h]
theorem IE.fresh {p:List Int} {i:Nat} {Q:List Nat} (B:IE p i Q) (hi:i<Q.length) {u:Nat} (h:pa p u=some Q[i]):u∉Q:=by
 rw[B.kid u _ h];intro hm;obtain⟨j,hj,he⟩:=List.mem_iff_getElem.1 hm
 have hj':j<i:=by simp at hj;omega
 rw[List.getElem_take] at he;have:=(List.nodup_iff_pairwise_ne.1 B.nodup);rw[List.pairwise_iff_getElem] at this;exact this j i om hi hj' he
theorem IE.step {p:List Int} {i:Nat} {Q:List Nat} (B:IE p i Q) (hi:i<Q.length):IE p (i+1) (Q++kids p Q[i]) where
 nodup:=by
  rw[List.nodup_append];refine⟨B.nodup,xq p _,λa ha b hb e=>?_⟩;subst e;exact B.fresh hi (rW.1 hb) ha
 lt:=λu h=>by
  rw[List.mem_append] at h
  rcases h with h |h
  ·exact B.lt u h
  ·exact zD (rW.1 h)
 le:=by simp;omega
 root:=λu h h'=>List.mem_append_left _ (B.root u h h')
 kid:=λu x h=>by
  have e:(Q++kids p Q[i]).take (i+1)=Q.take i++[Q[i]]:=by
   rw[List.take_append_of_le_length om,List.take_succ_eq_append_getElem hi]
  rw[e,List.mem_append,List.mem_append,B.kid u x h,rW,h];simp only[Option.some.injEq,List.mem_singleton]
theorem IE.len {p:List Int} {i:Nat} {Q:List Nat} (B:IE p i Q):Q.length≤p.length:=rV _ _ B.nodup B.lt
theorem Ey {n:Nat} {l:List Nat} (hn:l.Nodup) (h:∀x∈l,x<n) (hl:l.length=n):∀u<n,u∈l:=by
 intro u hu
 by_cases hm:u∈l
 ·exact hm
 ·exfalso
  have:=rV n (u::l) (List.nodup_cons.2 ⟨hm,hn⟩) (λx hx=>by
   rcases List.mem_cons.1 hx with e |hx
   ·omega
   ·exact h x hx)
  simp at this;omega
structure WZ (p:List Int) (Q:List Nat) (D:Nat→Nat):Prop where
 root:∀u∈Q,pa p u=none→D u=0
 kid:∀u∈Q,∀x,pa p u=some x→x∈Q∧D u=D x+1
 le:∀u,D u≤Q.length
theorem WZ.start (p:List Int):WZ p (dw p p.length) (λ_=>0) where
 root:=λ_ _ _=>rfl
 kid:=λu h x hx=>by simp[dw,hx] at h
 le:=λ_=>Nat.zero_le _
theorem WZ.step {p:List Int} {Q:List Nat} {D:Nat→Nat} (h:WZ p Q D) {c v:Nat} (hc:c∉Q) (hv:v∈Q) (hp:pa p c=some v):WZ p (Q++[c]) (λu=>if u=c then D v+1 else D u) where
 root:=λu hu hr=>by
  rw[List.mem_append,List.mem_singleton] at hu
  by_cases e:u=c
  ·subst e;rw[hp] at hr;cases hr
  ·rw[if_neg e];exact h.root u (hu.resolve_right e) hr
 kid:=λu hu x hx=>by
  rw[List.mem_append,List.mem_singleton] at hu
  by_cases e:u=c
  ·subst e;rw[hp] at hx;cases hx;have:v≠u:=λe=>hc (e▸hv);exact⟨List.mem_append_left _ hv,by rw[if_pos rfl,if_neg this]⟩
  ·have h1:=h.kid u (hu.resolve_right e) x hx;have:x≠c:=λe=>hc (e▸h1.1);exact⟨List.mem_append_left _ h1.1,by rw[if_neg e,if_neg this];exact h1.2⟩
 le:=λu=>by
  have h1:=h.le v;have h2:=h.le u;simp only[List.length_append,List.length_cons,List.length_nil]
  by_cases e:u=c
  ·rw[if_pos e];omega
  ·rw[if_neg e];omega
theorem IE.MH {p:List Int} {Q:List Nat} (B:IE p Q.length Q) (F:Tree p):Q.length=p.length:=by
 have all:∀k u,u<p.length→dp p u=k→u∈Q:=by
  intro k
  induction k with
  |zero=>
   intro u hu hd
   cases hp:pa p u with
   |none=>exact B.root u hu hp
   |some x=>have:=F.up u x hu hp;omega
  |succ k ih=>
   intro u hu hd
   cases hp:pa p u with
   |none=>exact B.root u hu hp
   |some x=>
    have h1:=F.up u x hu hp;rw[B.kid u x hp,List.take_length];exact ih x (F.rng u x hu hp) om
 have h1:=B.len;have h2:=rV Q.length (List.range p.length) List.nodup_range
 by_cases e:Q.length=p.length
 ·exact e
 ·exfalso
  have h3:p.length≤Q.length:=by
   have hsub:∀x∈List.range p.length,x∈Q:=λx hx=>all _ x (by simpa using hx) rfl;have:=(List.nodup_range (n:=p.length)).length_le_of_subset hsub;simpa using this
  omega
theorem IE.EG {p:List Int} {Q:List Nat} {D:Nat→Nat} (B:IE p Q.length Q) (hD:WZ p Q D) (hr:∀v u,pa p v=some u→u<p.length) (hl:Q.length=p.length):fE p D:=by
 have all:=Ey B.nodup B.lt hl;exact⟨λv u _ h=>hr v u h,λv u hv h=>(hD.kid v (all v hv) u h).2,λv hv h=>hD.root v (all v hv) h⟩
theorem zH:∀{l r:List Nat},l.Nodup→(∀x∈l,x∈r)→l.length≤r.length
 |[],_,_,_=>Nat.zero_le _
 |a::l,r,h,hs=>by
  rw[List.nodup_cons] at h;have h1:a∈r:=hs a (List.mem_cons_self ..);have h2:l.length≤(r.erase a).length:=zH h.2 λx hx=>(List.mem_erase_of_ne (λc=>h.1 (by rw[←c];exact hx))).2 (hs x (List.mem_cons_of_mem _ hx));rw[List.length_erase_of_mem h1] at h2;have:=List.length_pos_of_mem h1;simp only[List.length_cons];omega
theorem jT {l:List Nat} {m:Nat} (h:l.Nodup) (hs:∀x∈l,x<m):l.length≤m:=by
 have:=zH (r:=List.range m) h λx hx=>List.mem_range.2 (hs x hx);simpa using this
def dV {α:Type} (f:Nat→α) (i:Nat) (v:α):Nat→α:=λj=>if j=i then v else f j
theorem fH {α:Type} (f:Nat→α) (i:Nat) (v:α):dV f i v i=v:=if_pos rfl
theorem eU {α:Type} {f:Nat→α} {i j:Nat} {v:α} (h:j≠i):dV f i v j=f j:=if_neg h
def Chn (af:Nat→Int):Int→List Nat→Prop
 |la,[]=>la=-1
 |la,i::R=>la=(i:Nat)∧Chn af (af i) R
theorem Chn.congr {af af':Nat→Int}:∀{R:List Nat} {la:Int},Chn af la R→(∀i∈R,af' i=af i)→Chn af' la R
 |[],_,h,_=>h
 |i::R,_,⟨h1,h2⟩,e=>⟨h1,by rw[e i sj];exact Chn.congr h2 λj hj=>e j (by simp[hj])⟩
structure kC (S bg us:Nat) (la:Int) (st:Nat→Nat) (af:Nat→Int) (U R:List Nat):Prop where
 nd:U.Nodup
 ndR:R.Nodup
 dj:∀i∈U,i∉R
 Uc:bg=U.length+R.length
 Oc:us=U.length
 le:bg≤S
 mem:∀i,i<bg↔i∈U∨i∈R
 stU:∀i∈U,st i=1
 uj:∀i∈R,st i=2
 ch:Chn af la R
theorem kC.zero (S:Nat) (st:Nat→Nat) (af:Nat→Int):kC S 0 0 (-1) st af [] []:=
 ⟨List.nodup_nil,List.nodup_nil,λ_ h=>(by cases h),rfl,rfl,Nat.zero_le _,λi=>⟨λh=>absurd h (Nat.not_lt_zero _),λh=>by rcases h with h |h<;>cases h⟩,λ_ h=>(by cases h),λ_ h=>(by cases h),rfl⟩
section
variable {S bg us:Nat} {la:Int} {st:Nat→Nat} {af:Nat→Int} {U R:List Nat}
theorem kC.pop {i:Nat} (h:kC S bg us la st af U (i::R)):kC S bg (us+1) (af i) (dV st i 1) (dV af i (-1)) (i::U) R:=by
 obtain⟨hR1,hR2⟩:=List.nodup_cons.1 h.ndR;have hiU:i∉U:=λc=>h.dj i c sj;refine⟨List.nodup_cons.2 ⟨hiU,h.nd⟩,hR2,λj hj=>?_,?_,?_,h.le,λj=>?_,λj hj=>?_,λj hj=>?_,?_⟩
 ·rcases List.mem_cons.1 hj with rfl |hj
  ·exact hR1
  ·exact λc=>h.dj j hj (by simp[c])
 ·have:=h.Uc;simp only[List.length_cons] at this⊢;omega
 ·have:=h.Oc;simp only[List.length_cons];omega
 ·rw[h.mem j];simp only[List.mem_cons];constructor
  ·rintro(c |c |c)<;>simp[c]
  ·rintro((c |c) |c)<;>simp[c]
 ·rcases List.mem_cons.1 hj with rfl |hj
  ·exact fH _ _ _
  ·rw[eU (λe:j=i=>hiU (e▸hj))];exact h.stU j hj
 ·rw[eU (λe:j=i=>hR1 (e▸hj))];exact h.uj j (by simp[hj])
 ·exact h.ch.2.congr λj hj=>eU (λe:j=i=>hR1 (e▸hj))
theorem kC.new (h:kC S bg us la st af U []) (hb:bg<S):kC S (bg+1) (us+1) la (dV st bg 1) (dV af bg (-1)) (bg::U) []:=by
 have hn:bg∉U:=λc=>Nat.lt_irrefl _ ((h.mem bg).2 (.inl c));refine⟨List.nodup_cons.2 ⟨hn,h.nd⟩,h.ndR,λj hj=>sj,?_,?_,hb,λj=>?_,λj hj=>?_,λj hj=>(by cases hj),h.ch⟩
 ·have:=h.Uc;simp only[List.length_cons] at this⊢;omega
 ·have:=h.Oc;simp only[List.length_cons];omega
 ·simp only[List.mem_cons,List.not_mem_nil,or_false];have:=h.mem j;simp only[List.not_mem_nil,or_false] at this;rw[←this];omega
 ·rcases List.mem_cons.1 hj with rfl |hj
  ·exact fH _ _ _
  ·rw[eU (λe:j=bg=>hn (e▸hj))];exact h.stU j hj
theorem kC.free (h:kC S bg us la st af U R) {i:Nat} (hi:i∈U):kC S bg (us-1) (i:Nat) (dV st i 2) (dV af i la) (U.erase i) (i::R):=by
 have hR:=h.dj i hi;have hl:(U.erase i).length=U.length-1:=List.length_erase_of_mem hi;have hp:0<U.length:=List.length_pos_of_mem hi;have hm:∀j,j∈U.erase i↔j≠i∧j∈U:=λj=>h.nd.mem_erase_iff;refine⟨h.nd.erase _,List.nodup_cons.2 ⟨hR,h.ndR⟩,λj hj=>?_,?_,?_,h.le,λj=>?_,λj hj=>?_,λj hj=>?_,⟨rfl,?_⟩⟩
 ·obtain⟨h1,h2⟩:=(hm j).1 hj;intro c
  rcases List.mem_cons.1 c with c |c
  ·exact h1 c
  ·exact h.dj j h2 c
 ·have:=h.Uc;simp only[List.length_cons];omega
 ·have:=h.Oc;omega
 ·rw[h.mem j,hm,List.mem_cons]
  by_cases c:j=i
  ·subst c;simp[hi]
  ·simp[c]
 ·obtain⟨h1,h2⟩:=(hm j).1 hj;rw[eU h1];exact h.stU j h2
 ·rcases List.mem_cons.1 hj with rfl |hj
  ·exact fH _ _ _
  ·rw[eU (λe:j=i=>hR (e▸hj))];exact h.uj j hj
 ·rw[fH];exact h.ch.congr λj hj=>eU (λe:j=i=>hR (e▸hj))
theorem kC.lt (h:kC S bg us la st af U R) {i:Nat} (hi:i∈U):i<bg:=(h.mem i).2 (.inl hi)
end
def dl (N x y:Nat):Nat:=if x≤y then y-x else y+N-x
def dY (N c:Nat):Nat:=if c+1=N then 0 else c+1
def pW (cl:Nat→Nat) (c e:Nat):Nat→Nat:=λx=>if x=c then e else cl x
theorem bU (cl:Nat→Nat) (c e:Nat):pW cl c e c=e:=if_pos rfl
theorem aT {cl:Nat→Nat} {c e x:Nat} (h:x≠c):pW cl c e x=cl x:=if_neg h
theorem FY {N c:Nat} (h:c<N):dY N c<N:=by unfold dY;split<;>omega
theorem gN (N x y:Nat):x≤y∧dl N x y=y-x∨y<x∧dl N x y=y+N-x:=by
 unfold dl;split
 ·rename_i h;exact .inl ⟨h,rfl⟩
 ·rename_i h;exact .inr ⟨Nat.lt_of_not_le h,rfl⟩
theorem FX (N c:Nat):c+1=N∧dY N c=0∨c+1≠N∧dY N c=c+1:=by
 unfold dY;split
 ·rename_i h;exact .inl ⟨h,rfl⟩
 ·rename_i h;exact .inr ⟨h,rfl⟩
theorem tq {N x y:Nat} (hx:x<N) (hy:y<N):dl N x y<N:=oC (gN N x y)
theorem pz (N x:Nat):dl N x x=0:=oC (gN N x x)
theorem sZ {N x y:Nat} (hx:x<N) (h:dl N x y=0):x=y:=oC (gN N x y)
theorem uP {N x y z:Nat} (hx:x<N) (hy:y<N) (hz:z<N) (h:dl N x y=dl N x z):y=z:=oD (gN N x y) (gN N x z)
theorem ZY {N x y z:Nat} (hx:x<N) (hy:y<N) (hz:z<N) (h:dl N x y≤dl N x z):dl N x z=dl N x y+dl N y z:=oF (gN N x y) (gN N x z) (gN N y z)
theorem R8 {N x c:Nat} (hx:x<N) (hc:c<N) (h:dY N c≠x):dl N x (dY N c)=dl N x c+1:=oF (FX N c) (gN N x (dY N c)) (gN N x c)
theorem JU {N x c:Nat} (hx:x<N) (hc:c<N) (h:dY N c=x):dl N x c=N-1:=oD (FX N c) (gN N x c)
theorem MI {N f c:Nat} (hf:f<N) (hc:c<N) (h:c≠f):dl N c f=dl N (dY N c) f+1:=oF (FX N c) (gN N (dY N c) f) (gN N c f)
structure Ht (N:Nat) (cl h:Nat→Nat):Prop where
 one:∀c<N,∀c'<N,cl c=cl c'→cl c≠0→c=c'
 way:∀c<N,cl c≠0→∀z<N,dl N (h (cl c)) z<dl N (h (cl c)) c→cl z≠0
 hm:∀c<N,cl c≠0→h (cl c)<N
theorem Ht.put {N:Nat} {cl h:Nat→Nat} (H:Ht N cl h) {c e:Nat} (he:e≠0) (hn:∀z<N,cl z≠e) (hh:h e<N) (hw:∀z<N,dl N (h e) z<dl N (h e) c→cl z≠0):Ht N (pW cl c e) h:=by
 have nz:∀z,cl z≠0→pW cl c e z≠0:=λz hz=>by
  by_cases k:z=c
  ·rw[k,bU];exact he
  ·rw[aT k];exact hz
 refine⟨λx hx y hy e1 e2=>?_,λx hx e2 z hz hd=>?_,λx hx e2=>?_⟩
 ·by_cases kx:x=c<;>by_cases ky:y=c
  ·rw[kx,ky]
  ·rw[kx,bU,aT ky] at e1;exact absurd e1.symm (hn y hy)
  ·rw[ky,bU,aT kx] at e1;exact absurd e1 (hn x hx)
  ·rw[aT kx] at e1 e2;rw[aT ky] at e1;exact H.one x hx y hy e1 e2
 ·by_cases kx:x=c
  ·rw[kx,bU] at hd;exact nz z (hw z hz hd)
  ·rw[aT kx] at hd e2;exact nz z (H.way x hx e2 z hz hd)
 ·by_cases kx:x=c
  ·rw[kx,bU];exact hh
  ·rw[aT kx] at e2⊢;exact H.hm x hx e2
inductive Ul (N:Nat) (h:Nat→Nat):(Nat→Nat)→Nat→Nat→(Nat→Nat)→Prop
 |stop {cl:Nat→Nat} {o c:Nat} (k:cl (dY N c)=0):Ul N h cl o c (pW cl o 0)
 |skip {cl cl':Nat→Nat} {o c:Nat} (k:cl (dY N c)≠0) (m:dl N (h (cl (dY N c))) (dY N c)<dl N o (dY N c)) (g:Ul N h cl o (dY N c) cl'):Ul N h cl o c cl'
 |move {cl cl':Nat→Nat} {o c:Nat} (k:cl (dY N c)≠0) (m:¬dl N (h (cl (dY N c))) (dY N c)<dl N o (dY N c)) (g:Ul N h (pW cl o (cl (dY N c))) (dY N c) (dY N c) cl'):Ul N h cl o c cl'
structure ClI (N:Nat) (h cl:Nat→Nat) (o c:Nat):Prop where
 lo:o<N
 lc:c<N
 one:∀x<N,x≠o→∀y<N,y≠o→cl x=cl y→cl x≠0→x=y
 way:∀x<N,x≠o→cl x≠0→∀z<N,dl N (h (cl x)) z<dl N (h (cl x)) x→cl z≠0
 fre:∀x<N,x≠o→cl x≠0→dl N o x≤dl N o c→dl N (h (cl x)) x<dl N o x
 mid:∀z<N,dl N o z≤dl N o c→cl z≠0
 hm:∀x<N,x≠o→cl x≠0→h (cl x)<N
theorem aad {N:Nat} {h:Nat→Nat} {f:Nat} (hf:f<N):∀(m:Nat) (cl:Nat→Nat) (o c:Nat),dl N c f<m→ClI N h cl o c→cl f=0→
  ∃cl',Ul N h cl o c cl'∧Ht N cl' h∧∀e,e≠0→((∃x,x<N∧cl' x=e)↔∃x,x<N∧x≠o∧cl x=e):=by
 intro m
 induction m with
 |zero=>intro cl o c hm;omega
 |succ m ih=>
  intro cl o c hm I h0;have hcf:c≠f:=λe=>I.mid f hf (by rw[e];exact Nat.le_refl _) h0;have hof:o≠f:=λe=>I.mid f hf (by rw[e,pz];exact Nat.zero_le _) h0
  have hno:dY N c≠o:=λe=>by
   refine I.mid f hf ?_ h0;have:=JU I.lo I.lc e;have:=tq I.lo hf;omega
  have hd:=R8 I.lo I.lc hno;have hn:=FY I.lc;have hlt:=MI hf I.lc hcf
  by_cases k:cl (dY N c)=0
  ·refine⟨_,.stop k,⟨λx hx y hy e1 e2=>?_,λx hx e2 z hz hdz=>?_,λx hx e2=>?_⟩,λe he=>⟨λ⟨x,hx,e1⟩=>?_,λ⟨x,hx,hxo,e1⟩=>⟨x,hx,by rw[aT hxo];exact e1⟩⟩⟩
   ·have kx:x≠o:=λq=>e2 (by rw[q,bU]);rw[aT kx] at e1 e2;have ky:y≠o:=λq=>e2 (by rw[e1,q,bU]);rw[aT ky] at e1;exact I.one x hx kx y hy ky e1 e2
   ·have kx:x≠o:=λq=>e2 (by rw[q,bU]);rw[aT kx] at e2 hdz;have h1:=I.way x hx kx e2 z hz hdz;have ha:=I.hm x hx kx e2
    have hzo:z≠o:=λq=>by
     subst q;have h2:=ZY ha I.lo hx (Nat.le_of_lt hdz)
     by_cases h3:dl N z x≤dl N z c
     ·have:=I.fre x hx kx e2 h3;omega
     ·have h4:dl N z (dY N c)≤dl N z x:=om;have h5:dY N c≠x:=λq=>e2 (by rw[←q];exact k);have h6:dl N z (dY N c)≠dl N z x:=λq=>h5 (uP I.lo hn hx q)
      have h8:dl N (h (cl x)) (dY N c)<dl N (h (cl x)) x:=by
       have h7:=tq ha hx;have a1:dl N (h (cl x)) z+dl N z (dY N c)<N:=om
       have a2:dl N (h (cl x)) (dY N c)=dl N (h (cl x)) z+dl N z (dY N c):=by
        have hz':=I.lo;have:=gN N (h (cl x)) z;have:=gN N z (dY N c);have:=gN N (h (cl x)) (dY N c);omega
       omega
      exact I.way x hx kx e2 _ hn h8 k
    rw[aT hzo];exact h1
   ·have kx:x≠o:=λq=>e2 (by rw[q,bU]);rw[aT kx] at e2⊢;exact I.hm x hx kx e2
   ·have kx:x≠o:=λq=>he (by rw[←e1,q,bU]);exact⟨x,hx,kx,by rw[aT kx] at e1;exact e1⟩
  ·have ha:=I.hm _ hn hno k
   by_cases mm:dl N (h (cl (dY N c))) (dY N c)<dl N o (dY N c)
   ·obtain⟨cl',g1,g2,g3⟩:=ih cl o (dY N c) om ⟨I.lo,hn,I.one,I.way,λx hx kx e2 hdx=>by
     by_cases q:dl N o x≤dl N o c
     ·exact I.fre x hx kx e2 q
     ·have:dl N o x=dl N o (dY N c):=om;have:=uP I.lo hx hn this
      subst this;exact mm,λz hz hdz=>by
     by_cases q:dl N o z≤dl N o c
     ·exact I.mid z hz q
     ·have:dl N o z=dl N o (dY N c):=om;have:=uP I.lo hz hn this
      subst this;exact k,I.hm⟩ h0
    exact⟨cl',.skip k mm g1,g2,g3⟩
   ·have hu:∀z,cl z≠0→pW cl o (cl (dY N c)) z≠0:=λz hz=>by
     by_cases q:z=o
     ·rw[q,bU];exact k
     ·rw[aT q];exact hz
    have hon:o≠dY N c:=λe=>hno e.symm
    obtain⟨cl',g1,g2,g3⟩:=ih (pW cl o (cl (dY N c))) (dY N c) (dY N c) om ⟨hn,hn,λx hx kx y hy ky e1 e2=>by
     by_cases qx:x=o<;>by_cases qy:y=o
     ·rw[qx,qy]
     ·rw[qx,bU,aT qy] at e1;exact absurd (I.one _ hn hno y hy qy e1 k) (λe=>ky e.symm)
     ·rw[qy,bU,aT qx] at e1;rw[aT qx] at e2;exact absurd (I.one x hx qx _ hn hno e1 e2) kx
     ·rw[aT qx] at e1 e2;rw[aT qy] at e1
      exact I.one x hx qx y hy qy e1 e2,λx hx kx e2 z hz hdz=>by
     by_cases qx:x=o
     ·rw[qx,bU] at hdz
      have h2:dl N (h (cl (dY N c))) o<dl N (h (cl (dY N c))) (dY N c):=by
       have h9:=I.lo;have h8:dl N o (dY N c)≠0:=λe=>hon (sZ I.lo e);have:=gN N (h (cl (dY N c))) o;have:=gN N o (dY N c);have:=gN N (h (cl (dY N c))) (dY N c);omega
      exact hu z (I.way _ hn hno k z hz om)
     ·rw[aT qx] at e2 hdz
      exact hu z (I.way x hx qx e2 z hz hdz),λx hx kx e2 hdx=>by
     rw[pz] at hdx
     exact absurd (sZ hn (Nat.le_zero.1 hdx)).symm kx,λz hz hdz=>by
     rw[pz] at hdz;have:=sZ hn (Nat.le_zero.1 hdz);rw[←this]
     exact hu _ k,λx hx kx e2=>by
     by_cases qx:x=o
     ·rw[qx,bU];exact ha
     ·rw[aT qx] at e2⊢;exact I.hm x hx qx e2⟩ (by rw[aT (λe=>hof e.symm)];exact h0)
    refine⟨cl',.move k mm g1,g2,λe he=>(g3 e he).trans ⟨λ⟨x,hx,kx,e1⟩=>?_,λ⟨x,hx,kx,e1⟩=>?_⟩⟩
    ·by_cases qx:x=o
     ·rw[qx,bU] at e1;exact⟨dY N c,hn,hno,e1⟩
     ·rw[aT qx] at e1;exact⟨x,hx,qx,e1⟩
    ·by_cases qx:x=dY N c
     ·exact⟨o,I.lo,hon,by rw[bU,←qx];exact e1⟩
     ·exact⟨x,hx,qx,by rw[aT kx];exact e1⟩
theorem Ht.clear {N:Nat} {cl h:Nat→Nat} (H:Ht N cl h) {o f:Nat} (ho:o<N) (h0:cl o≠0) (hf:f<N) (hf0:cl f=0):
  ∃cl',Ul N h cl o o cl'∧Ht N cl' h∧∀e,e≠0→((∃x,x<N∧cl' x=e)↔(∃x,x<N∧cl x=e)∧e≠cl o):=by
 obtain⟨cl',g1,g2,g3⟩:=aad (h:=h) hf (dl N o f+1) cl o o (Nat.lt_succ_self _) ⟨ho,ho,λx hx _ y hy _ e1 e2=>H.one x hx y hy e1 e2,λx hx _ e2=>H.way x hx e2,
  λx hx kx e2 hd=>by rw[pz] at hd;exact absurd (sZ ho (Nat.le_zero.1 hd)).symm kx,
  λz hz hd=>by rw[pz] at hd;rw[←sZ ho (Nat.le_zero.1 hd)];exact h0,λx hx _ e2=>H.hm x hx e2⟩ hf0
 refine⟨cl',g1,g2,λe he=>(g3 e he).trans ⟨λ⟨x,hx,kx,e1⟩=>⟨⟨x,hx,e1⟩,λq=>kx (H.one x hx o ho (e1.trans q) (by rw[e1];exact he))⟩,λ⟨⟨x,hx,e1⟩,q⟩=>⟨x,hx,λk=>q (by rw[←e1,k]),e1⟩⟩⟩
def Nl (N:Nat) (cl:Nat→Nat) (P:Nat→Prop) (a c:Nat):Prop:=c<N∧(cl c=0∨P (cl c))∧∀z<N,dl N a z<dl N a c→cl z≠0∧¬P (cl z)
theorem Ht.found {N:Nat} {cl h:Nat→Nat} (H:Ht N cl h) {P:Nat→Prop} {a c x:Nat} (ha:a<N) (S:Nl N cl P a c) (hx:x<N) (h0:cl x≠0) (hP:P (cl x)) (hh:h (cl x)=a) (hu:∀z<N,cl z≠0→P (cl z)→cl z=cl x):c=x:=by
 obtain⟨s1,s2,s3⟩:=S
 rcases Nat.lt_trichotomy (dl N a c) (dl N a x) with k |k |k
 ·have h1:=H.way x hx h0 c s1 (by rw[hh];exact k);exact H.one c s1 x hx (hu c s1 h1 (s2.resolve_left h1)) h1
 ·exact uP ha s1 hx k
 ·exact absurd hP (s3 x hx k).2
theorem VL {N s:Nat} {cl h:Nat→Nat} (H:Ht N cl h) (hs:s<N) (hl:∀c<N,cl c≤s):∃f,f<N∧cl f=0:=by
 apply Classical.byContradiction;intro hc;have hne:∀c<N,cl c≠0:=λc hcN e=>hc ⟨c,hcN,e⟩
 have h2:((List.range N).map λc=>cl c-1).length≤s:=by
  refine jT ?_ λx hx=>?_
  ·refine List.pairwise_map.2 (List.nodup_range.imp_of_mem fun{x y} hx hy hxy e=>hxy ?_);have a1:=hne x (List.mem_range.1 hx);have a2:=hne y (List.mem_range.1 hy);exact H.one x (List.mem_range.1 hx) y (List.mem_range.1 hy) om a1
  ·obtain⟨c,hc2,rfl⟩:=List.mem_map.1 hx;have a1:=hne c (List.mem_range.1 hc2);have a2:=hl c (List.mem_range.1 hc2);omega
 rw[List.length_map,List.length_range] at h2;omega
def aJ (ids:List Int) (i:Nat):Int:=ids.getD i 0
structure mM (N S:Nat) (hm:Int→Nat) (ids:List Int) (cl:Nat→Nat) (U:List Nat):Prop where
 ht:Ht N cl (λe=>hm (aJ ids (e-1)))
 cu:∀c<N,cl c≠0→cl c-1∈U
 uc:∀i∈U,∃c,c<N∧cl c=i+1
 inj:∀i∈U,∀j∈U,aJ ids i=aJ ids j→i=j
 lt:∀i∈U,i<ids.length
 le:ids.length≤S
 sN:S<N
section
variable {N S:Nat} {hm:Int→Nat} {ids:List Int} {cl:Nat→Nat} {U:List Nat}
theorem Ht.congr {N:Nat} {cl h h':Nat→Nat} (H:Ht N cl h) (e:∀z<N,cl z≠0→h' (cl z)=h (cl z)):Ht N cl h':=
 ⟨H.one,λc hc h0 z hz hd=>H.way c hc h0 z hz (by rw[e c hc h0] at hd;exact hd),λc hc h0=>by rw[e c hc h0];exact H.hm c hc h0⟩
theorem mM.cle (h:mM N S hm ids cl U) {c:Nat} (hc:c<N):cl c≤ids.length:=by
 by_cases h0:cl c=0
 ·omega
 ·have:=h.lt _ (h.cu c hc h0);omega
theorem mM.free (h:mM N S hm ids cl U):∃f,f<N∧cl f=0:=VL h.ht h.sN λ_ hc=>Nat.le_trans (h.cle hc) h.le
def isId (ids:List Int) (x:Int) (e:Nat):Prop:=aJ ids (e-1)=x
theorem mM.some_ (h:mM N S hm ids cl U) {x:Int} {c:Nat} (s:Nl N cl (isId ids x) (hm x) c) (h0:cl c≠0):cl c-1∈U∧aJ ids (cl c-1)=x:=
 ⟨h.cu c s.1 h0,s.2.1.resolve_left h0⟩
theorem mM.none_ (h:mM N S hm ids cl U) {x:Int} {c:Nat} (hh:hm x<N) (s:Nl N cl (isId ids x) (hm x) c) (h0:cl c=0):∀i∈U,aJ ids i≠x:=λi hi e=>by
 obtain⟨c',h1,h2⟩:=h.uc i hi
 have:=h.ht.found (x:=c') hh s h1 om (by unfold isId;rw[h2];exact e) (by rw[h2];exact congrArg hm e) λz hz hz0 hP=>by
  have h3:=h.cu z hz hz0;have:cl z-1=i:=h.inj _ h3 i hi (by unfold isId at hP;rw[hP,e]);omega
 rw[this,h2] at h0;exact absurd h0 (Nat.succ_ne_zero i)
theorem mM.put (h:mM N S hm ids cl U) {x:Int} {c i:Nat} {aZ:List Int} (hh:hm x<N) (s:Nl N cl (isId ids x) (hm x) c) (h0:cl c=0) (hi:i∉U) (hx:aJ aZ i=x)
  (hs:∀j∈U,aJ aZ j=aJ ids j) (hl:ids.length≤aZ.length) (hil:i<aZ.length) (hS:aZ.length≤S):mM N S hm aZ (pW cl c (i+1)) (i::U):=by
 have hno:=h.none_ hh s h0;have hcl:∀z<N,cl z≠i+1:=λz hz e=>hi (by have:=h.cu z hz om;rwa [e] at this)
 have h1:Ht N cl (λe=>hm (aJ aZ (e-1))):=h.ht.congr λz hz hz0=>by show hm _=hm _;rw[hs _ (h.cu z hz hz0)]
 have he:hm (aJ aZ (i+1-1))=hm x:=by rw[Nat.add_sub_cancel,hx]
 refine⟨h1.put (Nat.succ_ne_zero i) hcl (by show hm (aJ aZ i)<N;rw[hx];exact hh) (λz hz hd=>(s.2.2 z hz (he▸hd)).1),λz hz hz0=>?_,λj hj=>?_,λa ha b hb e=>?_,λj hj=>?_,hS,h.sN⟩
 ·by_cases k:z=c
  ·rw[k,bU,Nat.add_sub_cancel];simp
  ·rw[aT k] at hz0⊢;exact List.mem_cons_of_mem _ (h.cu z hz hz0)
 ·rcases List.mem_cons.1 hj with rfl |hj
  ·exact⟨c,s.1,bU _ _ _⟩
  ·obtain⟨c',k1,k2⟩:=h.uc j hj;exact⟨c',k1,by rw[aT (λe=>by rw[e,h0] at k2;exact Nat.succ_ne_zero j k2.symm)];exact k2⟩
 ·rcases List.mem_cons.1 ha with rfl |ha2<;>rcases List.mem_cons.1 hb with rfl |hb2
  ·rfl
  ·rw[hx,hs b hb2] at e;exact absurd e.symm (hno b hb2)
  ·rw[hs a ha2,hx] at e;exact absurd e (hno a ha2)
  ·rw[hs a ha2,hs b hb2] at e;exact h.inj a ha2 b hb2 e
 ·rcases List.mem_cons.1 hj with rfl |hj
  ·exact hil
  ·exact Nat.lt_of_lt_of_le (h.lt j hj) hl
theorem mM.del (h:mM N S hm ids cl U) (hU:U.Nodup) {i c:Nat} {aZ:List Int} (hc:c<N) (hi:cl c=i+1) (hs:∀j∈U,j≠i→aJ aZ j=aJ ids j) (hl:aZ.length=ids.length):
  ∃cl',Ul N (λe=>hm (aJ ids (e-1))) cl c c cl'∧mM N S hm aZ cl' (U.erase i):=by
 obtain⟨f,hf,hf0⟩:=h.free;obtain⟨cl',g1,g2,g3⟩:=h.ht.clear hc om hf hf0;have hm':∀j,j∈U.erase i↔j≠i∧j∈U:=λj=>hU.mem_erase_iff
 have Co:∀z<N,cl' z≠0→cl' z-1∈U∧cl' z-1≠i:=λz hz hz0=>by
  obtain⟨⟨x,hx,e⟩,k⟩:=(g3 _ hz0).1 ⟨z,hz,rfl⟩;rw[hi] at k;have:=h.cu x hx (by rw[e];exact hz0);rw[e] at this;exact⟨this,om⟩
 refine⟨cl',g1,g2.congr λz hz hz0=>?_,λz hz hz0=>?_,λj hj=>?_,λa ha b hb e=>?_,λj hj=>?_,by rw[hl];exact h.le,h.sN⟩
 ·show hm _=hm _;rw[hs _ (Co z hz hz0).1 (Co z hz hz0).2]
 ·exact(hm' _).2 ⟨(Co z hz hz0).2,(Co z hz hz0).1⟩
 ·obtain⟨k1,k2⟩:=(hm' j).1 hj;obtain⟨c',q1,q2⟩:=h.uc j k2;exact(g3 (j+1) (Nat.succ_ne_zero j)).2 ⟨⟨c',q1,q2⟩,om⟩
 ·obtain⟨a1,a2⟩:=(hm' a).1 ha;obtain⟨b1,b2⟩:=(hm' b).1 hb;rw[hs a a2 a1,hs b b2 b1] at e;exact h.inj a a2 b b2 e
 ·rw[hl];exact h.lt j ((hm' j).1 hj).2
theorem mM.zero {N S:Nat} (hN:S<N) (hm:Int→Nat):mM N S hm [] (λ_=>0) []:=
 ⟨⟨λ_ _ _ _ _ h=>absurd rfl h,λ_ _ h=>absurd rfl h,λ_ _ h=>absurd rfl h⟩,λ_ _ h=>absurd rfl h,λ_ h=>(by cases h),λ_ h=>(by cases h),λ_ h=>(by cases h),Nat.zero_le _,hN⟩
end
theorem YD {x y:Option Nat}:oi x=oi y↔x=y:=by
 cases x<;>cases y<;>simp[oi]<;>omega
structure Level (p:List Int) (a b a0 b0:Nat):Prop where
 ha:a<p.length
 hb:b<p.length
 ea:aL p (dp p a-min (dp p a) (dp p b)) a=some a0
 eb:aL p (dp p b-min (dp p a) (dp p b)) b=some b0
theorem Level.facts {p:List Int} (F:Tree p) {a b a0 b0:Nat} (L:Level p a b a0 b0):
  a0<p.length∧b0<p.length∧dp p a0=dp p b0∧dp p a0=min (dp p a) (dp p b)∧bL p a0 a=true∧bL p b0 b=true:=by
 have h1:=pK F _ _ _ L.ha L.ea;have h2:=pK F _ _ _ L.hb L.eb;exact⟨h1.1,h2.1,om,om,(aF F L.ha).2 ⟨_,L.ea⟩,(aF F L.hb).2 ⟨_,L.eb⟩⟩
theorem EJ {p:List Int} (F:Tree p) {a b a0:Nat} (L:Level p a b a0 a0):com p a b=some a0:=by
 obtain⟨h1,h2,h3,h4,h5,h6⟩:=L.facts F;refine Sd F L.ha h5 h6 λx hx hy=>?_;have:=zQ F L.ha hx;have:=zQ F L.hb hy;omega
structure qc (p:List Int) (a0 b0 m i x y:Nat):Prop where
 ex:aL p m a0=some x
 ey:aL p m b0=some y
 ne:x≠y
 top:aL p (m+2 ^ i) a0=aL p (m+2 ^ i) b0
theorem qc.start {p:List Int} (F:Tree p) (hs:p.length≤8192) {a b a0 b0:Nat} (L:Level p a b a0 b0) (hne:a0≠b0):qc p a0 b0 0 13 a0 b0:=by
 obtain⟨h1,h2,h3,h4,h5,h6⟩:=L.facts F;refine⟨rfl,rfl,hne,?_⟩;have d1:=mJ F h1;have d2:=mJ F h2;rw[(lS F h1).2 om,(lS F h2).2 om]
theorem qc.lt {p:List Int} (F:Tree p) {a b a0 b0 m i x y:Nat} (L:Level p a b a0 b0) (S:qc p a0 b0 m i x y):x<p.length∧y<p.length:=by
 obtain⟨h1,h2,_⟩:=L.facts F;exact⟨uR F h1 S.ex,uR F h2 S.ey⟩
theorem qc.same {p:List Int} {a0 b0 m j x y:Nat} (S:qc p a0 b0 m (j+1) x y) (h:oi (aL p (2 ^ j) x)=oi (aL p (2 ^ j) y)):qc p a0 b0 m j x y:=by
 refine⟨S.ex,S.ey,S.ne,?_⟩;rw[jg,jg,S.ex,S.ey];exact YD.1 h
theorem qc.go {p:List Int} (F:Tree p) {a b a0 b0 m j x y:Nat} (L:Level p a b a0 b0) (S:qc p a0 b0 m (j+1) x y) (h:oi (aL p (2 ^ j) x)≠oi (aL p (2 ^ j) y)):
  ∃x' y',oi (aL p (2 ^ j) x)=(x':Nat)∧oi (aL p (2 ^ j) y)=(y':Nat)∧qc p a0 b0 (m+2 ^ j) j x' y':=by
 obtain⟨h1,h2,h3,h4,h5,h6⟩:=L.facts F;obtain⟨lx,ly⟩:=S.lt F L;have dx:=jr F h1 S.ex;have dy:=jr F h2 S.ey
 cases ex:aL p (2 ^ j) x with
 |none=>
  exfalso;have e1:=(lS F lx).1 ex;have e2:=(lS F ly (k:=2 ^ j)).2 om;rw[ex,e2] at h;exact h rfl
 |some x'=>
  cases ey:aL p (2 ^ j) y with
  |none=>
   exfalso;have e1:=(lS F ly).1 ey;have e2:=(lS F lx (k:=2 ^ j)).2 om;rw[ex] at e2;cases e2
  |some y'=>
   refine⟨x',y',rfl,rfl,⟨?_,?_,?_,?_⟩⟩
   ·rw[jg,S.ex];exact ex
   ·rw[jg,S.ey];exact ey
   ·intro e;rw[ex,ey,e] at h;exact h rfl
   ·have:=S.top;rw[Nat.pow_succ] at this;rw[show m+2 ^ j+2 ^ j=m+2 ^ j*2 from om];exact this
theorem qc.done {p:List Int} (F:Tree p) {a b a0 b0 m x y:Nat} (L:Level p a b a0 b0) (S:qc p a0 b0 m 0 x y):com p a b=pa p x:=by
 obtain⟨h1,h2,h3,h4,h5,h6⟩:=L.facts F;obtain⟨lx,ly⟩:=S.lt F L;have dx:=jr F h1 S.ex;have dy:=jr F h2 S.ey;have ax:bL p x a=true:=kH F L.ha ((aF F h1).2 ⟨_,S.ex⟩) h5;have ay:bL p y b=true:=kH F L.hb ((aF F h2).2 ⟨_,S.ey⟩) h6
 have hno:∀z,bL p z a=true→bL p z b=true→dp p z<dp p x:=by
  intro z hza hzb
  by_cases hd:dp p z<dp p x
  ·exact hd
  ·exfalso;have hz:=sJ F L.ha hza;have q1:=nV F L.ha ax hza om;have q2:=nV F L.hb ay hzb om;exact S.ne (QX F hz q1 q2 om)
 have ht:=S.top;rw[Nat.pow_zero,lQ,lQ,S.ex,S.ey] at ht;have ht:pa p x=pa p y:=ht
 cases hp:pa p x with
 |none=>
  refine Si F L.ha λz hza hzb=>?_;have:=hno z hza hzb;have:=F.root x lx hp;omega
 |some c=>
  have hc:=F.rng x c lx hp;have hd:=F.up x c lx hp;refine Sd F L.ha (kH F L.ha ((aF F lx).2 ⟨1,hp⟩) ax) (kH F L.hb ((aF F ly).2 ⟨1,ht.symm.trans hp⟩) ay) λz hza hzb=>?_;have:=hno z hza hzb;omega
end Go.Proofs.YtpaeogglppampaaGreatDoor
