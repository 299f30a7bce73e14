/- Lemmas of the proof. Conditions: as each one states. -/
import Derived.Test.YtpaeogglppampaaGreatDoorQD
import Derived.Test.YtpaeogglppampaaGreatDoorQE
set_option maxRecDepth 100000
set_option maxHeartbeats 16000000
namespace Go.Proofs.YtpaeogglppampaaGreatDoor
open Go.RowKit
structure Cf where
 win:Int
 E:Nat
 V:Nat
 dr:Int
structure Xa (c:Cf):Prop where
 win:BZ c.win
 E:1≤c.E∧c.E≤16384
 V:2≤c.V∧c.V≤4096
structure dX where
 b:Nat
 cb:Nat
 sf:bD
 eb:Nat
 eh:bY
 ff:ku
def dX.aP (G:dX) (E:Nat):Nat→List Nat
 |0=>[G.b]
 |1=>[G.cb]
 |2=>G.sf.bl
 |3=>G.eb::G.eh.bl E
 |4=>G.ff.bl E
 |_=>[]
def dX.bl (G:dX) (E:Nat):List Nat:=blG 5 (G.aP E)
theorem dX.ak {G:dX} {E i x:Nat} (hi:i<5) (hx:x∈G.aP E i):x∈G.bl E:=bP.2 ⟨i,hi,hx⟩
def wnH (G:dX) (c:Cf) (ad:Nat) (ex:Int) (i:Nat):Value:=(#[Value.int .i64 c.win,.int .i64 (c.E:Nat),.int .i64 (c.V:Nat),.int .i64 c.dr,.pointer (some ⟨G.cb,0,none⟩),.pointer (some ⟨G.sf.b,0,none⟩),.pointer (some ⟨G.eb,0,none⟩),.pointer (some ⟨G.ff.b,0,none⟩),.int .u64 (ad:Nat),.int .u64 ex]:Array Value).getD i undef
structure fM (w:World) (G:dX) (c:Cf) (nw:Int) (ad:Nat) (ex:Int) (s:St) (ef:Nat→Int) (U:List Nat) (f:Fs):Prop where
 hr:Row w G.b 10 (wnH G c ad ex)
 ck:Kl w G.cb c.win nw
 st:∃N bg inc,lq w G.sf c.E c.V N bg s inc
 sc:∃L,rz w G.eb G.eh c.E L∧Cg ef U L
 fo:gD w G.ff c.E c.V f.lv f
 sep:Sep (G.aP c.E)
section
variable {w w':World} {G:dX} {c:Cf} {nw:Int} {ad:Nat} {ex:Int} {s:St} {ef:Nat→Int} {U:List Nat} {f:Fs}
theorem fM.tT (h:fM w G c nw ad ex s ef U f):∀i,∀x∈G.aP c.E i,x<w.heap.size:=λi x hx=>by
 obtain⟨N,bg,inc,st⟩:=h.st;obtain⟨L,sc,_⟩:=h.sc
 match i,hx with
 |0,hx=>simp[dX.aP] at hx;rw[hx];exact h.hr.lt
 |1,hx=>simp[dX.aP] at hx;rw[hx];exact Row.lt h.ck
 |2,hx=>exact st.lt x hx
 |3,hx=>exact sc.lt x hx
 |4,hx=>exact h.fo.lt x hx
 |n+5,hx=>cases hx
theorem fM.lt (h:fM w G c nw ad ex s ef U f):∀j∈G.bl c.E,j<w.heap.size:=λj hj=>by
 obtain⟨i,_,hi⟩:=bP.1 hj;exact h.tT i j hi
theorem fM.keep (h:fM w G c nw ad ex s ef U f) (e:∀j∈G.bl c.E,w'.heap[j]?=w.heap[j]?):fM w' G c nw ad ex s ef U f:=by
 obtain⟨N,bg,inc,st⟩:=h.st;obtain⟨L,sc,sL⟩:=h.sc;have e':∀i<5,∀x∈G.aP c.E i,w'.heap[x]?=w.heap[x]?:=λi hi x hx=>e x (dX.ak hi hx);exact⟨h.hr.of_block (e' 0 om _ (by simp[dX.aP])),Row.of_block h.ck (e' 1 om _ (by simp[dX.aP])),⟨N,bg,inc,st.keep (e' 2 om)⟩,⟨L,sc.keep (e' 3 om),sL⟩,h.fo.keep (e' 4 om),h.sep⟩
theorem fM.off (h:fM w G c nw ad ex s ef U f) (o:Off [] w w'):fM w' G c nw ad ex s ef U f:=h.keep λj hj=>o.block j (h.lt j hj) sj
theorem fM.cell (h:fM w G c nw ad ex s ef U f) {i:Nat} (hi:i<10) {v:Value} (hv:wnH G c ad ex i=v):w.cell? ⟨G.b,i,none⟩=some v:=hv▸h.hr.cell hi
theorem fM.c0 (h:fM w G c nw ad ex s ef U f):w.cell? ⟨G.b,0,none⟩=some (.int .i64 c.win):=h.cell om rfl
theorem fM.c1 (h:fM w G c nw ad ex s ef U f):w.cell? ⟨G.b,1,none⟩=some (.int .i64 (c.E:Nat)):=h.cell om rfl
theorem fM.c2 (h:fM w G c nw ad ex s ef U f):w.cell? ⟨G.b,2,none⟩=some (.int .i64 (c.V:Nat)):=h.cell om rfl
theorem fM.c3 (h:fM w G c nw ad ex s ef U f):w.cell? ⟨G.b,3,none⟩=some (.int .i64 c.dr):=h.cell om rfl
theorem fM.c4 (h:fM w G c nw ad ex s ef U f):w.cell? ⟨G.b,4,none⟩=some (.pointer (some ⟨G.cb,0,none⟩)):=h.cell om rfl
theorem fM.c5 (h:fM w G c nw ad ex s ef U f):w.cell? ⟨G.b,5,none⟩=some (.pointer (some ⟨G.sf.b,0,none⟩)):=h.cell om rfl
theorem fM.c6 (h:fM w G c nw ad ex s ef U f):w.cell? ⟨G.b,6,none⟩=some (.pointer (some ⟨G.eb,0,none⟩)):=h.cell om rfl
theorem fM.c7 (h:fM w G c nw ad ex s ef U f):w.cell? ⟨G.b,7,none⟩=some (.pointer (some ⟨G.ff.b,0,none⟩)):=h.cell om rfl
theorem fM.c8 (h:fM w G c nw ad ex s ef U f):w.cell? ⟨G.b,8,none⟩=some (.int .u64 (ad:Nat)):=h.cell om rfl
theorem fM.c9 (h:fM w G c nw ad ex s ef U f):w.cell? ⟨G.b,9,none⟩=some (.int .u64 ex):=h.cell om rfl
theorem fM.fz (h:fM w G c nw ad ex s ef U f) (q:Nat):w.frozen? ⟨G.b,q,none⟩=false:=h.hr.frozen q
theorem fM.rest (h:fM w G c nw ad ex s ef U f) {i:Nat} {B:List Nat} (bo:Bo (G.aP c.E i) B w w'):Sep (gW (G.aP c.E) i B)∧∀j,j≠i→∀x∈G.aP c.E j,w'.heap[x]?=w.heap[x]?:=h.sep.turn h.tT bo
theorem fM.setSt {Yr:bD} {s':St} (h:fM w G c nw ad ex s ef U f) (a:∃N bg inc,lq w' Yr c.E c.V N bg s' inc) (hh:Yr.b=G.sf.b) (bo:Bo G.sf.bl Yr.bl w w'):
  fM w' { G with sf:=Yr } c nw ad ex s' ef U f∧Bo (G.bl c.E) (({ G with sf:=Yr }:dX).bl c.E) w w':=by
 obtain⟨h1,h2⟩:=h.rest (i:=2) bo;obtain⟨L,sc,sL⟩:=h.sc
 have hg:({ G with sf:=Yr }:dX).aP c.E=gW (G.aP c.E) 2 Yr.bl:=by
  funext j;unfold gW
  match j with
  |0 |1 |2 |3 |4 |n+5=>rfl
 refine⟨⟨?_,Row.of_block h.ck (h2 1 om _ (by simp[dX.aP])),a,⟨L,sc.keep (h2 3 om),sL⟩,h.fo.keep (h2 4 om),by rw[hg];exact h1⟩,?_⟩
 ·have:=h.hr.of_block (h2 0 om G.b (by simp[dX.aP]));unfold wnH at this⊢;rw[←hh] at this;exact this
 ·unfold dX.bl;rw[hg];exact Bo.aP (i:=2) bo om
theorem fM.Xf {Wi:bY} {ef':Nat→Int} {U':List Nat} (h:fM w G c nw ad ex s ef U f) (a:∃L,rz w' G.eb Wi c.E L∧Cg ef' U' L) (bo:Bo (G.eb::G.eh.bl c.E) (G.eb::Wi.bl c.E) w w'):
  fM w' { G with eh:=Wi } c nw ad ex s ef' U' f∧Bo (G.bl c.E) (({ G with eh:=Wi }:dX).bl c.E) w w':=by
 obtain⟨h1,h2⟩:=h.rest (i:=3) bo;obtain⟨N,bg,inc,st⟩:=h.st
 have hg:({ G with eh:=Wi }:dX).aP c.E=gW (G.aP c.E) 3 (G.eb::Wi.bl c.E):=by
  funext j;unfold gW
  match j with
  |0 |1 |2 |3 |4 |n+5=>rfl
 refine⟨⟨h.hr.of_block (h2 0 om G.b (by simp[dX.aP])),Row.of_block h.ck (h2 1 om _ (by simp[dX.aP])),⟨N,bg,inc,st.keep (h2 2 om)⟩,a,h.fo.keep (h2 4 om),by rw[hg];exact h1⟩,?_⟩;unfold dX.bl;rw[hg];exact Bo.aP (i:=3) bo om
theorem fM.Ja {ZT:ku} {f':Fs} (h:fM w G c nw ad ex s ef U f) (a:gD w' ZT c.E c.V f'.lv f') (hh:ZT.b=G.ff.b) (bo:Bo (G.ff.bl c.E) (ZT.bl c.E) w w'):
  fM w' { G with ff:=ZT } c nw ad ex s ef U f'∧Bo (G.bl c.E) (({ G with ff:=ZT }:dX).bl c.E) w w':=by
 obtain⟨h1,h2⟩:=h.rest (i:=4) bo;obtain⟨N,bg,inc,st⟩:=h.st;obtain⟨L,sc,sL⟩:=h.sc
 have hg:({ G with ff:=ZT }:dX).aP c.E=gW (G.aP c.E) 4 (ZT.bl c.E):=by
  funext j;unfold gW
  match j with
  |0 |1 |2 |3 |4 |n+5=>rfl
 refine⟨⟨?_,Row.of_block h.ck (h2 1 om _ (by simp[dX.aP])),⟨N,bg,inc,st.keep (h2 2 om)⟩,⟨L,sc.keep (h2 3 om),sL⟩,a,by rw[hg];exact h1⟩,?_⟩
 ·have:=h.hr.of_block (h2 0 om G.b (by simp[dX.aP]));unfold wnH at this⊢;rw[←hh] at this;exact this
 ·unfold dX.bl;rw[hg];exact Bo.aP (i:=4) bo om
theorem fM.ab4 (h:fM w G c nw ad ex s ef U f) (t:Int):fM (w.setCell ⟨G.cb,1,none⟩ (.int .i64 t)) G c t ad ex s ef U f∧Bo (G.bl c.E) (G.bl c.E) w (w.setCell ⟨G.cb,1,none⟩ (.int .i64 t)):=by
 have bo:Bo (G.aP c.E 1) (G.aP c.E 1) w (w.setCell ⟨G.cb,1,none⟩ (.int .i64 t)):=(Bo.refl _ _).setCell (p:=⟨G.cb,1,none⟩) (by simp[dX.aP]) _;obtain⟨_,h2⟩:=h.rest bo;obtain⟨N,bg,inc,st⟩:=h.st;obtain⟨L,sc,sL⟩:=h.sc;have hb:=Bo.aP (n:=5) bo om;rw[dZ] at hb;exact⟨⟨h.hr.of_block (h2 0 om G.b (by simp[dX.aP])),Kl.set h.ck t,⟨N,bg,inc,st.keep (h2 2 om)⟩,⟨L,sc.keep (h2 3 om),sL⟩,h.fo.keep (h2 4 om),h.sep⟩,hb⟩
theorem fM.ab5 (h:fM w G c nw ad ex s ef U f) (x:Nat):fM (w.setCell ⟨G.b,8,none⟩ (.int .u64 (x:Nat))) G c nw x ex s ef U f∧Bo (G.bl c.E) (G.bl c.E) w (w.setCell ⟨G.b,8,none⟩ (.int .u64 (x:Nat))):=by
 have bo:Bo (G.aP c.E 0) (G.aP c.E 0) w (w.setCell ⟨G.b,8,none⟩ (.int .u64 x)):=(Bo.refl _ _).setCell (p:=⟨G.b,8,none⟩) (by simp[dX.aP]) _;obtain⟨_,h2⟩:=h.rest bo;obtain⟨N,bg,inc,st⟩:=h.st;obtain⟨L,sc,sL⟩:=h.sc;have hb:=Bo.aP (n:=5) bo om;rw[dZ] at hb;refine⟨⟨(h.hr.set 8 (.int .u64 x)).congr λi hi=>?_,Row.of_block h.ck (h2 1 om _ (by simp[dX.aP])),⟨N,bg,inc,st.keep (h2 2 om)⟩,⟨L,sc.keep (h2 3 om),sL⟩,h.fo.keep (h2 4 om),h.sep⟩,hb⟩
 match i,hi with
 |0,_ |1,_ |2,_ |3,_ |4,_ |5,_ |6,_ |7,_ |8,_ |9,_=>rfl
 |k+10,e=>exact absurd e om
theorem fM.ab2 (h:fM w G c nw ad ex s ef U f) (x:Int):fM (w.setCell ⟨G.b,9,none⟩ (.int .u64 x)) G c nw ad x s ef U f∧Bo (G.bl c.E) (G.bl c.E) w (w.setCell ⟨G.b,9,none⟩ (.int .u64 x)):=by
 have bo:Bo (G.aP c.E 0) (G.aP c.E 0) w (w.setCell ⟨G.b,9,none⟩ (.int .u64 x)):=(Bo.refl _ _).setCell (p:=⟨G.b,9,none⟩) (by simp[dX.aP]) _;obtain⟨_,h2⟩:=h.rest bo;obtain⟨N,bg,inc,st⟩:=h.st;obtain⟨L,sc,sL⟩:=h.sc;have hb:=Bo.aP (n:=5) bo om;rw[dZ] at hb;refine⟨⟨(h.hr.set 9 (.int .u64 x)).congr λi hi=>?_,Row.of_block h.ck (h2 1 om _ (by simp[dX.aP])),⟨N,bg,inc,st.keep (h2 2 om)⟩,⟨L,sc.keep (h2 3 om),sL⟩,h.fo.keep (h2 4 om),h.sep⟩,hb⟩
 match i,hi with
 |0,_ |1,_ |2,_ |3,_ |4,_ |5,_ |6,_ |7,_ |8,_ |9,_=>rfl
 |k+10,e=>exact absurd e om
end
structure WnS (c:Cf) (s:St) (f:Fs):Prop where
 cf:Xa c
 wn:y7 c.E c.V s f
 wf:∀k∈s.U,(Lit.int .u64 (s.rc k).u).wf=true∧(Lit.int .u64 (s.rc k).v).wf=true∧dR (s.rc k).w∧dR (s.rc k).t
def qW (w:World) (G:dX) (c:Cf) (nw:Int) (ad:Nat) (ex:Int) (s:St):Prop:=∃f,fM w G c nw ad ex s s.ex s.U f∧WnS c s f
section
variable {w w':World} {G:dX} {c:Cf} {nw:Int} {ad:Nat} {ex:Int} {s s':St} {f:Fs} {E V m:Nat}
theorem qW.lt (h:qW w G c nw ad ex s):∀j∈G.bl c.E,j<w.heap.size:=by
 obtain⟨f,h1,_⟩:=h;exact h1.lt
theorem qW.keep (h:qW w G c nw ad ex s) (e:∀j∈G.bl c.E,w'.heap[j]?=w.heap[j]?):qW w' G c nw ad ex s:=by
 obtain⟨f,h1,h2⟩:=h;exact⟨f,h1.keep e,h2⟩
theorem qW.off (h:qW w G c nw ad ex s) (o:Off [] w w'):qW w' G c nw ad ex s:=h.keep λj hj=>o.block j (h.lt j hj) sj
theorem y7.rem (h:y7 E V s f) (r:aau s s' m) (ok:jA E s') (fo:gM E V (f.rem m)):y7 E V s' (f.rem m):=by
 have hme:∀k,k∈s'.U↔k≠m∧k∈s.U:=λk=>by rw[r.U];exact h.st.und.mem_erase_iff
 refine⟨ok,fo,λk=>?_,λk hk=>?_,λk hk=>?_,λk hk=>?_⟩
 ·rw[hme]
  by_cases e:k=m
  ·have:(f.rem m).lv k=false:=if_pos e;rw[this];simp[e]
  ·have:(f.rem m).lv k=f.lv k:=if_neg e;rw[this,h.lv];simp[e]
 ·rw[r.rc.2];exact h.fx k ((hme k).1 hk).2
 ·obtain⟨a,b⟩:=h.fa k ((hme k).1 hk).2;have:=r.tu _ a (by rw[b];exact(ok.Ej _).2 ⟨k,hk,.inl (by rw[r.rc.1])⟩);exact⟨this.1,this.2.trans (b.trans (by rw[r.rc.1]))⟩
 ·obtain⟨a,b⟩:=h.fb k ((hme k).1 hk).2;have:=r.tu _ a (by rw[b];exact(ok.Ej _).2 ⟨k,hk,.inr (by rw[r.rc.1])⟩);exact⟨this.1,this.2.trans (b.trans (by rw[r.rc.1]))⟩
theorem y7.ins {k a b:Nat} {r:Rc} {x:Int} {t:Nat→Bool} (h:y7 E V s f) (i:Ti s s' k r x) (ok:jA E s') (fo:gM E V { f.add k a b x false with t:=t }) (ha:a∈s'.TU∧aJ s'.ids a=r.u) (hb:b∈s'.TU∧aJ s'.ids b=r.v):y7 E V s' { f.add k a b x false with t:=t }:=by
 have hne:∀j∈s.U,j≠k:=λj hj e=>i.new (e▸hj)
 have hme:∀j,j∈s'.U↔j=k∨j∈s.U:=λj=>by rw[i.U];exact List.mem_cons
 refine⟨ok,fo,λj=>?_,λj hj=>?_,λj hj=>?_,λj hj=>?_⟩
 ·rw[hme];show(f.add k a b x false).lv j=true↔_
  by_cases e:j=k
  ·rw[e,Fs.add_eq.1];simp
  ·rw[(Fs.gL e).1,h.lv];simp[e]
 ·show(f.add k a b x false).x j=_
  rcases(hme j).1 hj with e |e
  ·rw[e,Fs.add_eq.2.2.2.1,i.at_.2]
  ·rw[(Fs.gL (hne j e)).2.2.2.1,(i.old j (hne j e)).2];exact h.fx j e
 ·show(f.add k a b x false).a j∈_∧aJ _ ((f.add k a b x false).a j)=_
  rcases(hme j).1 hj with e |e
  ·rw[e,Fs.add_eq.2.1,i.at_.1];exact ha
  ·rw[(Fs.gL (hne j e)).2.1,(i.old j (hne j e)).1];obtain⟨p,q⟩:=h.fa j e;obtain⟨p2,q2⟩:=i.tu _ p;exact⟨p2,q2.trans q⟩
 ·show(f.add k a b x false).b j∈_∧aJ _ ((f.add k a b x false).b j)=_
  rcases(hme j).1 hj with e |e
  ·rw[e,Fs.add_eq.2.2.1,i.at_.1];exact hb
  ·rw[(Fs.gL (hne j e)).2.2.1,(i.old j (hne j e)).1];obtain⟨p,q⟩:=h.fb j e;obtain⟨p2,q2⟩:=i.tu _ p;exact⟨p2,q2.trans q⟩
end
section
variable {w w':World} {F:bD} {E V N bg:Nat} {s:St} {inc:Int→List Nat}
theorem Di (h:lq w F E V N bg s inc) (u v x t ex:Int) (hc:gK E V s u v=0) (hu:(Lit.int .u64 u).wf=true) (hv:(Lit.int .u64 v).wf=true):
  Calls Tryz.prog 47 #[.pointer (some ⟨F.b,0,none⟩),.agg #[.int .u64 u,.int .u64 v,.int .i64 x,.int .i64 t],.int .i64 ex] w λe w'=>∃k sq F' xY s' iQ,e=.returned (.tuple #[.agg #[.int .i64 (k:Nat),.int .u64 sq,.int .u64 u,.int .u64 v,.int .i64 x,.int .i64 t,.int .i64 ex],.int .i64 0])∧lq w' F' E V N xY s' iQ∧F'.b=F.b∧Bo F.bl F'.bl w w'∧Ti s s' k ⟨u,v,t,x⟩ ex:=by
 obtain⟨W1,hW1⟩:∃W,(w.alloc (.cells #[.int .u64 u,.int .u64 v,.int .i64 x,.int .i64 t] 33)).alloc (.cells #[.int .i64 0,.int .u64 0,.int .u64 0,.int .u64 0,.int .i64 0,.int .i64 0,.int .i64 0] 52)=W:=⟨_,rfl⟩
 have o1:Off [] w W1:=by rw[←hW1];exact((Off.refl _ _).alloc _).alloc _
 have h1:=h.off o1
 have hr1:Row W1 w.heap.size 4 (λi=>(#[Value.int .u64 u,.int .u64 v,.int .i64 x,.int .i64 t]:Array Value).getD i undef):=by
  rw[←hW1];exact(Row.lit (n:=4) (f:=λi=>(#[Value.int .u64 u,.int .u64 v,.int .i64 x,.int .i64 t]:Array Value).getD i undef) w #[.int .u64 u,.int .u64 v,.int .i64 x,.int .i64 t] 33 (Nat.le_refl _) lC).alloc _
 have hz1:Row W1 (w.heap.size+1) 7 (λi=>vH.getD i undef):=by
  rw[←hW1];have:=Row.lit (n:=7) (f:=λi=>vH.getD i undef) (w.alloc (.cells #[.int .u64 u,.int .u64 v,.int .i64 x,.int .i64 t] 33)) vH 52 (Nat.le_refl _) lC
  rwa [World.size_alloc] at this
 have HC:=qE h1 u v t x;rw[hc] at HC;have HC:=jh HC;have r0:W1.cell? ⟨w.heap.size,0,none⟩=some (.int .u64 u):=hr1.c 0;have r1:W1.cell? ⟨w.heap.size,1,none⟩=some (.int .u64 v):=hr1.c 1;have r2:W1.cell? ⟨w.heap.size,2,none⟩=some (.int .i64 x):=hr1.c 2;have r3:W1.cell? ⟨w.heap.size,3,none⟩=some (.int .i64 t):=hr1.c 3;rw[←hW1] at r0 r1 r2 r3;have HCk:=jh hc;have HW1:=jh hW1;have O1:=jh o1;have H1:=jh h1;have HR1:=jh hr1;have HZ1:=jh hz1;have oJ:=jh h.lt;clear hW1 o1 h1 hr1 hz1 h hc;go_in;go_wp2_with fail;rw[HW1.out];apply mO HC;rintro e w2 ⟨rfl,o2⟩;clear r0 r1 r2 r3 HC;have h2:=H1.out.off o2;obtain⟨la,lv,c,cp,M,p2,Cq,El⟩:=h2.parts;have HR2:=jh (HR1.out.of_block (o2.block _ HR1.out.lt sj));have HZ2:=jh (HZ1.out.of_block (o2.block _ HZ1.out.lt sj));have H2:=jh h2;have P2:=jh p2;have HB:=jh (And.intro Cq El);have O2:=jh (O1.out.trans o2 λj hj=>by cases hj);have c3:=p2.c3;obtain⟨hne,hUl,hTl⟩:=BQ HCk.out;have HA:=jh (yg p2.ar (oC h2.lim) hUl);have HL:=jh (And.intro h2.pw (And.intro h2.lim (And.intro h2.ok (And.intro h2.im h2.nd))));have HT:=jh (And.intro hne (And.intro hUl hTl));clear h2 p2 Cq El o2 hne hUl hTl H1 HR1 HZ1 O1;go_wp2_with fail;apply mO HA;rintro e w3 ⟨k,oq,xY,rfl,VT,hkS,hkb,a3,hh3,b3⟩;obtain⟨p3,Ai⟩:=P2.out.Dk a3 hh3 b3;obtain⟨F3,NM⟩:∃F',({ F with ar:=oq }:bD)=F':=⟨_,rfl⟩;rw[NM] at p3 Ai
 have Rs:F3.b=F.b:=by rw[←NM]
 obtain⟨tV,hla⟩:=nE (IntKind.u64.wrap (la+1))
 have c2:w3.cell? ⟨F.b,2,none⟩=some (.int .u64 la):=by rw[←Rs];exact p3.c2
 have f2:w3.frozen? ⟨F.b,2,none⟩=false:=by rw[←Rs];exact p3.hr.frozen 2
 clear c3 HA;go_wp2_with fail;obtain⟨p4,Cz⟩:=p3.I6 tV;rw[Rs] at p4 Cz;obtain⟨W4,gT⟩:=nE (w3.setCell ⟨F.b,2,none⟩ (.int .u64 tV));rw[gT] at p4 Cz;have hRF:w.heap.size∉F.bl:=λc=>Nat.lt_irrefl _ (oJ.out _ c);have hbF:F.b∈F.bl:=bP.2 ⟨0,om,by simp[bD.aP]⟩
 have r4:=HR2.out.of_block (w':=W4) (by
  rw[←gT]
  exact(aC _ (λe=>hRF (by rw[show w.heap.size=F.b from e];exact hbF))).trans (Ai.off.block _ HR2.out.lt hRF))
 have Rm:w.heap.size+1∉F.bl:=λc=>oC (oJ.out _ c)
 have z4:=HZ2.out.of_block (w':=W4) (by
  rw[←gT]
  exact(aC _ (λe=>Rm (by rw[show w.heap.size+1=F.b from e];exact hbF))).trans (Ai.off.block _ HZ2.out.lt Rm))
 have k0:W4.cell? ⟨w.heap.size,0,none⟩=some (.int .u64 u):=r4.c 0;have k1:W4.cell? ⟨w.heap.size,1,none⟩=some (.int .u64 v):=r4.c 1;have k2:W4.cell? ⟨w.heap.size,2,none⟩=some (.int .i64 x):=r4.c 2;have k3:W4.cell? ⟨w.heap.size,3,none⟩=some (.int .i64 t):=r4.c 3
 have k4:W4.cell? ⟨F.b,2,none⟩=some (.int .u64 tV):=by rw[←Rs];exact p4.c2
 have ajo:=jh (show w.heap.size∉F3.bl∧w.heap.size+1∉F3.bl from⟨λc=>(Ai.fQ _ c).elim hRF λe=>oC HR2.out.lt,λc=>(Ai.fQ _ c).elim Rm λe=>oC HZ2.out.lt⟩);have X7:=jh NM;have tY:=jh Rs;have P4:=jh p4;have B4:=jh (((Bo.aX (A:=F.bl) O2.out).trans Ai).trans Cz);have HKb:=jh (And.intro VT (And.intro hkS hkb));have HR4:=jh r4;have J6:=jh z4;have HS:W4.drew.cell? ⟨w.heap.size,0,none⟩=some (.int .u64 u)∧W4.drew.cell? ⟨w.heap.size,1,none⟩=some (.int .u64 v)∧W4.drew.cell? ⟨w.heap.size,2,none⟩=some (.int .i64 x)∧W4.drew.cell? ⟨w.heap.size,3,none⟩=some (.int .i64 t)∧W4.drew.cell? ⟨F.b,2,none⟩=some (.int .u64 tV):=⟨k0,k1,k2,k3,k4⟩;rw[gT];clear c2 f2 gT NM p3 Ai a3 b3 hh3 p4 Cz r4 z4 k0 k1 k2 k3 k4 VT hkS hkb hla;refine aj (λw'=>w'.cell? ⟨w.heap.size,0,none⟩=some (.int .u64 u)∧w'.cell? ⟨w.heap.size,1,none⟩=some (.int .u64 v)∧w'.cell? ⟨w.heap.size,2,none⟩=some (.int .i64 x)∧w'.cell? ⟨w.heap.size,3,none⟩=some (.int .i64 t)∧w'.cell? ⟨F.b,2,none⟩=some (.int .u64 tV)) (by kernel_rfl) ?_;refine tC 0 ?_;refine tC 1 ?_;refine tC 2 ?_;refine tC 3 ?_;refine tC 4 ?_;refine tC 5 ?_;refine tC 6 ?_;refine tC 7 ?_
 try simp only[sD]
 refine rC 8 λK hK=>?_;go_simp;obtain⟨W5,kZ⟩:∃W,(W4.alloc (.cells #[.int .i64 0,.int .u64 0,.int .u64 0,.int .u64 0,.int .i64 0,.int .i64 0,.int .i64 0] 52)).drew=W:=⟨_,rfl⟩
 have o5:Off [] W4 W5:=by rw[←kZ];exact((Off.refl _ _).alloc _).drew
 have z5:Row W5 W4.heap.size 7 (λi=>(#[Value.int .i64 0,.int .u64 0,.int .u64 0,.int .u64 0,.int .i64 0,.int .i64 0,.int .i64 0]:Array Value).getD i undef):=by
  rw[←kZ];exact(Row.lit (n:=7) (f:=λi=>(#[Value.int .i64 0,.int .u64 0,.int .u64 0,.int .u64 0,.int .i64 0,.int .i64 0,.int .i64 0]:Array Value).getD i undef) W4 #[.int .i64 0,.int .u64 0,.int .u64 0,.int .u64 0,.int .i64 0,.int .i64 0,.int .i64 0] 52 (Nat.le_refl _) lC).of_block rfl
 have r5:=HR4.out.of_block (o5.block _ HR4.out.lt sj);have rz5:=J6.out.of_block (o5.block _ J6.out.lt sj);have p5:=P4.out.off o5;have Ns:W5.cell? ⟨w.heap.size,0,none⟩=some (.int .u64 u)∧W5.cell? ⟨w.heap.size,1,none⟩=some (.int .u64 v)∧W5.cell? ⟨w.heap.size,2,none⟩=some (.int .i64 x)∧W5.cell? ⟨w.heap.size,3,none⟩=some (.int .i64 t)∧W5.cell? ⟨F.b,2,none⟩=some (.int .u64 tV):=⟨r5.c 0,r5.c 1,r5.c 2,r5.c 3,by rw[←tY.out];exact p5.c2⟩;rw[kZ];have XR:=jh kZ;have O5:=jh o5;have Z5:=jh z5;have R5:=jh r5;have RZ5:=jh rz5;have P5:=jh p5;clear kZ o5 r5 rz5 p5;refine hK.out _ _ Ns (λHS=>?_);clear hK Ns;refine rC 9 λK hK=>?_;obtain⟨B,hB⟩:=nE W4.heap.size;rw[hB] at z5⊢;have q0:W5.cell? ⟨B,0,none⟩=some (.int .i64 0):=z5.c 0;have q1:W5.cell? ⟨B,1,none⟩=some (.int .u64 0):=z5.c 1;have q2:W5.cell? ⟨B,2,none⟩=some (.int .u64 0):=z5.c 2;have q3:W5.cell? ⟨B,3,none⟩=some (.int .u64 0):=z5.c 3;have q4:W5.cell? ⟨B,4,none⟩=some (.int .i64 0):=z5.c 4;have q5:W5.cell? ⟨B,5,none⟩=some (.int .i64 0):=z5.c 5;have q6:W5.cell? ⟨B,6,none⟩=some (.int .i64 0):=z5.c 6;have g0:=z5.frozen 0;have g1:=z5.frozen 1;have g2:=z5.frozen 2;have g3:=z5.frozen 3;have g4:=z5.frozen 4;have g5:=z5.frozen 5;have g6:=z5.frozen 6;go_simp;obtain⟨W6,hW6⟩:=nE ((((((((W5.setCell ⟨B,0,none⟩ (.int .i64 k)).setCell ⟨B,1,none⟩ (.int .u64 tV)).setCell ⟨B,2,none⟩ (.int .u64 u)).setCell ⟨B,3,none⟩ (.int .u64 v)).setCell ⟨B,4,none⟩ (.int .i64 x)).setCell ⟨B,5,none⟩ (.int .i64 t)).setCell ⟨B,6,none⟩ (.int .i64 ex)));rw[hW6]
 have z6:Row W6 B 7 (λi=>(#[Value.int .i64 k,.int .u64 tV,.int .u64 u,.int .u64 v,.int .i64 x,.int .i64 t,.int .i64 ex]:Array Value).getD i undef):=by
  rw[←hW6];refine(((((((z5.set 0 _).set 1 _).set 2 _).set 3 _).set 4 _).set 5 _).set 6 _).congr λi hi=>?_
  match i,hi with
  |0,_ |1,_ |2,_ |3,_ |4,_ |5,_ |6,_=>rfl
  |k+7,e=>exact absurd e om
 have o6:Off [B] W5 W6:=by
  rw[←hW6];exact(((((((Off.refl [B] W5).setCell (p:=⟨B,0,none⟩) sj _).setCell (p:=⟨B,1,none⟩) sj _).setCell (p:=⟨B,2,none⟩) sj _).setCell (p:=⟨B,3,none⟩) sj _).setCell (p:=⟨B,4,none⟩) sj _).setCell (p:=⟨B,5,none⟩) sj _).setCell (p:=⟨B,6,none⟩) sj _
 have hBlt:∀i,∀y∈F3.aP i,y<B:=λi y hy=>by rw[←hB];exact P4.out.tT i y hy
 have hs5:=O5.out.size;have p6:=P5.out.keep (w':=W6) λi y hy=>o6.block y (oC (hBlt i y hy)) (by have:=hBlt i y hy;simp;omega)
 have hRB:w.heap.size<B:=by rw[←hB];exact HR4.out.lt
 have r6:=R5.out.of_block (o6.block _ R5.out.lt (by simp;omega))
 have hZB:w.heap.size+1<B:=by rw[←hB];exact J6.out.lt
 have rz6:=RZ5.out.of_block (o6.block _ RZ5.out.lt (by simp;omega));have b6:Bo F.bl F3.bl w W6:=⟨(B4.out.off.trans O5.out λj hj=>by cases hj).trans o6 λj hj=>.inr (by simp at hj;omega),B4.out.fQ⟩;have HS6:W6.cell? ⟨w.heap.size,0,none⟩=some (.int .u64 u)∧W6.cell? ⟨w.heap.size,1,none⟩=some (.int .u64 v)∧W6.cell? ⟨w.heap.size,2,none⟩=some (.int .i64 x)∧W6.cell? ⟨w.heap.size,3,none⟩=some (.int .i64 t)∧W6.cell? ⟨F.b,2,none⟩=some (.int .u64 tV):=⟨r6.c 0,r6.c 1,r6.c 2,r6.c 3,by rw[←tY.out];exact p6.c2⟩
 have ZH:B∉F3.bl:=λc=>by
  obtain⟨i,_,hi⟩:=bP.1 c;have:=hBlt i B hi;omega
 have adw:=ajo.out;have P6:=jh p6;have Z6:=jh z6;have R6:=jh (And.intro r6 rz6);have B6:=jh b6;have WW:=jh (And.intro ZH (And.intro adw (And.intro hRB hZB)));clear q0 q1 q2 q3 q4 q5 q6 g0 g1 g2 g3 g4 g5 g6 z5 hW6 p6 z6 r6 rz6 b6 o6 hBlt hs5 hRB hZB ZH adw hB HS;refine hK.out _ _ HS6 (λHS=>?_);clear hK HS6 HS;refine dD ⟨rfl,?_⟩;clear P4 HR4 J6 O5 Z5 R5 RZ5 P5 B4 XR;go_wp2_with fail;obtain⟨G,hG⟩:=nE (xY-bg);have hGb:G+bg=xY∧k<xY∧xY≤k+1∨G=0∧xY=bg∧k<bg:=oC HKb.out.2.2;have HG:=jh hGb;have hbk:xY≤E:=oD HKb.out HB.out.1;have hE2:E≤16384:=HL.out.2.1.1;have bk:(0:Int)≤k∧(k:Int)<16384:=oC HKb.out.2.1;have HE:=jh (And.intro hbk hE2);clear hG hGb hbk hE2
 go_loopg [54] G (λM0 _ wr=>∃(n:Nat) (F':bD) (Lv:Value) (c':Nat→Nat→Value),M0+n=xY∧bg≤n∧Hid (eD wr F' E V N xY tV Lv n c' (k::s.U) s.ids s.TU inc cp M)∧Hid (F'.b=F.b)∧Hid (Bo F.bl F'.bl w wr)∧Hid (Row wr B 7 (λi=>(#[Value.int .i64 k,.int .u64 tV,.int .u64 u,.int .u64 v,.int .i64 x,.int .i64 t,.int .i64 ex]:Array Value).getD i undef))∧Hid (Row wr w.heap.size 4 (λi=>(#[Value.int .u64 u,.int .u64 v,.int .i64 x,.int .i64 t]:Array Value).getD i undef)∧Row wr (w.heap.size+1) 7 (λi=>vH.getD i undef))∧Hid (B∉F'.bl∧w.heap.size∉F'.bl∧w.heap.size+1∉F'.bl)∧Hid (∀r∈s.U,∀j<7,c' r j=(kY s r).getD j undef))
 case atStart=>exact⟨bg,F3,lv,c,oC HG.out,Nat.le_refl _,P6,tY,B6,Z6,R6,jh ⟨WW.out.1,WW.out.2.1.1,WW.out.2.1.2⟩,jh λr hr=>(HB.out.2 r hr).2⟩
 case round=>
  clear P6 tY B6 Z6 R6;obtain⟨n,F',Lv,c',hM,hbn,P6,tY,B6,Z6,R6,Fb,HC'⟩:=hrel;obtain⟨a,cap,hlv⟩:=U8 P6.out.ow
  have c5:wr.cell? ⟨F.b,5,none⟩=some Lv:=by rw[←tY.out];exact P6.out.c5
  have f5:wr.frozen? ⟨F.b,5,none⟩=false:=by rw[←tY.out];exact P6.out.hr.frozen 5
  rw[hlv] at c5;have bn:(0:Int)≤n∧(n:Int)≤16384:=oD HE.out HG.out
  by_cases hkn:k<n
  ·have d1:decide ((n:Int)≤k)=false:=dF om;have d2:decide (n≤k)=false:=dF om;have hnb:n=xY:=oC HG.out;subst hnb
   obtain⟨g7,Rj⟩:∃g,Lv=.slice (some ⟨g,0,none⟩) n cap:=by
    rcases P6.out.ow.2 with⟨_,e⟩ |⟨g,cap2,cur,e,_⟩
    ·omega
    ·rw[e] at hlv;cases hlv;exact⟨g,e⟩
   have ha:a=some ⟨g7,0,none⟩:=by rw[hlv] at Rj;cases Rj;rfl
   subst ha;have p7:=P6.out;rw[Rj] at p7;have q0:wr.cell? ⟨B,0,none⟩=some (.int .i64 k):=Z6.out.c 0;have q1:wr.cell? ⟨B,1,none⟩=some (.int .u64 tV):=Z6.out.c 1;have q2:wr.cell? ⟨B,2,none⟩=some (.int .u64 u):=Z6.out.c 2;have q3:wr.cell? ⟨B,3,none⟩=some (.int .u64 v):=Z6.out.c 3;have q4:wr.cell? ⟨B,4,none⟩=some (.int .i64 x):=Z6.out.c 4;have q5:wr.cell? ⟨B,5,none⟩=some (.int .i64 t):=Z6.out.c 5;have q6:wr.cell? ⟨B,6,none⟩=some (.int .i64 ex):=Z6.out.c 6;have bkn:(k:Int)<n:=om;have HP7:=jh p7;have HKN:=jh hkn;have HC8:=jh (And.intro Rj hlv);obtain⟨W8,hW8⟩:=nE ((wr.drew).setCells g7 (k*7) [.int .i64 k,.int .u64 tV,.int .u64 u,.int .u64 v,.int .i64 x,.int .i64 t,.int .i64 ex]);have pR:=jh hW8;have p7d:eD wr.drew F' E V N n tV (.slice (some ⟨g7,0,none⟩) n cap) n c' (k::s.U) s.ids s.TU inc cp M:=p7.keep λ_ _ _=>rfl;have HTh:=jh (p7d.there hkn);have aeU:=jh p7d
   have VU:(Tryz.prog.info? 52).map (·.size)=some 7:=by kernel_rfl
   clear Rj hlv p7 p7d hM hbn hW8;go_wp2
   go_still_tail 7,(by kernel_rfl)
   refine wpList_store_mid rfl 52 (.tmp 71) (.tmp 70) rfl g7 (k*7) #[.int .i64 k,.int .u64 tV,.int .u64 u,.int .u64 v,.int .i64 x,.int .i64 t,.int .i64 ex] rfl rfl HTh.out VU (by simp[Value.oneCell']) ?_;rw[show(({ heap:=wr.heap,tape:=wr.tape,drawn:=wr.drawn+1,os:=wr.os,output:=wr.output }:World).setCells g7 (k*7) #[Value.int .i64 k,.int .u64 tV,.int .u64 u,.int .u64 v,.int .i64 x,.int .i64 t,.int .i64 ex].toList)=W8 from pR.out];obtain⟨p8,bo8⟩:=aeU.out.setRow HKN.out [.int .i64 k,.int .u64 tV,.int .u64 u,.int .u64 v,.int .i64 x,.int .i64 t,.int .i64 ex] rfl (λj hj=>by match j,hj with |0,_ |1,_ |2,_ |3,_ |4,_ |5,_ |6,_=>rfl |n+7,k=>exact absurd k om);rw[pR.out] at p8 bo8;obtain⟨c8,hc8⟩:∃c8:Nat→Nat→Value,(λx' y=>if x'=k then([Value.int .i64 k,.int .u64 tV,.int .u64 u,.int .u64 v,.int .i64 x,.int .i64 t,.int .i64 ex]:List Value).getD y undef else c' x' y)=c8:=⟨_,rfl⟩;rw[hc8] at p8;have BR:Bo F'.bl F'.bl wr W8:=(Bo.refl F'.bl wr).drew.trans bo8;obtain⟨rw8,nb8⟩:=jD BR ⟨Z6.out,R6.out⟩ Fb.out;have P8:=jh p8;have HC:=jh hc8;have BB1:=jh (B6.out.trans BR);have RW1:=jh rw8;have NB1:=jh nb8;have afj:=jh tY.out;have Ui:=jh (show ∀r∈s.U,r<n from λr hr=>by have h1:=(HB.out.2 r hr).1;have:=HG.out;omega);have r0:W8.cell? ⟨w.heap.size,0,none⟩=some (.int .u64 u):=rw8.2.1.c 0;have r1:W8.cell? ⟨w.heap.size,1,none⟩=some (.int .u64 v):=rw8.2.1.c 1
   have ix0:∀w,(Instr.index 138 (.agg #[.int .u64 u,.int .u64 v]) (.int .i64 0)).run Tryz.prog w=.ok (.int .u64 u) w:=λ_=>by kernel_rfl
   have ix1:∀w,(Instr.index 138 (.agg #[.int .u64 u,.int .u64 v]) (.int .i64 1)).run Tryz.prog w=.ok (.int .u64 v) w:=λ_=>by kernel_rfl
   have aeR:=jh (show(∃i∈s.TU,aJ s.ids i=u)∨s.TU.length<V from by
    by_cases c:s.has u
    ·exact .inl c
    ·have h1:=HT.out.2.2;rw[St.iw c] at h1;simp only[bN] at h1
     exact .inr om)
   have Nu:=jh (show(∀y,(inc y).Nodup)∧∀y q,q∈inc y→q<E from⟨HL.out.2.2.2.2,λy q hq=>HL.out.2.2.1.ult q ((HL.out.2.2.2.1 y q).1 hq).1⟩)
   have ajG:=jh (show ∀q,inc q≠[]→∀{aZ:List Int} {pY:List Nat},(∀y,(∀j∈s.TU,j∈pY∧aJ aZ j=aJ s.ids j)∧((∃j∈pY,aJ aZ j=y)↔(∃j∈s.TU,aJ s.ids j=y)∨y=u))→∃i∈pY,aJ aZ i=q from λq hq {aZ pY} hp=>by
    obtain⟨r,hr⟩:=List.exists_mem_of_ne_nil _ hq;have h1:=(HL.out.2.2.2.1 q r).1 hr;obtain⟨i,hi,e⟩:=(HL.out.2.2.1.Ej q).2 ⟨r,h1.1,h1.2⟩;obtain⟨a,b⟩:=(hp q).1 i hi
    exact⟨i,a,b.trans e⟩)
   clear p8 bo8 hc8 BR rw8 nb8 P6 Z6 R6 B6 Fb HP7 aeU HTh q0 q1 q2 q3 q4 q5 q6;go_wp2_with fail;refine wp_loop_rounds 3 ?_;rw[rounds_succ];clear r0 r1
   have c4:W8.cell? ⟨F.b,4,none⟩=some (.pointer (some ⟨F'.tb.h,0,none⟩)):=by rw[←afj.out];exact P8.out.c4
   go_wp2_with fail;refine(CZ P8.out.tb HL.out.1 (oC HL.out.2.1) u aeR.out).mono ?_;rintro e w91 ⟨vv1,tb1,xC,Tc,rfl,t9,hh9,b9,pr⟩;have PR1:=jh pr;obtain⟨p9,bo9⟩:=P8.out.Pk t9 hh9 b9;obtain⟨zf,ZE⟩:∃F9,({ F' with tb:=tb1 }:bD)=F9:=⟨_,rfl⟩
   have BH:zf.b=F.b:=by rw[←ZE];exact afj.out
   rw[ZE] at p9 bo9;obtain⟨V1,hV⟩:=nE w91.drew
   have pV:eD V1 zf E V N n tV (.slice (some ⟨g7,0,none⟩) n cap) n c8 (k::s.U) xC Tc inc cp M:=by rw[←hV];exact p9.keep λ_ _ _=>rfl
   have bV:Bo F'.bl zf.bl W8 V1:=by rw[←hV];exact bo9.drew
   obtain⟨rwV,nbV⟩:=jD bV RW1.out NB1.out
   have HS:V1.cell? ⟨F.b,6,none⟩=some (.map (some zf.mb)):=by rw[←BH];exact pV.c6
   have c6w:w91.cell? ⟨F.b,6,none⟩=some (.map (some zf.mb)):=by rw[←BH];exact p9.c6
   have HVe:=jh hV;have TD:=jh BH;have Tf:=jh pV;have BV1:=jh bV;have aiU:=jh rwV;have ai3:=jh nbV;clear t9 hh9 b9 pr p9 bo9 ZE BH hV pV bV rwV nbV c4;go_wp2;refine aj (λw'=>w'.cell? ⟨F.b,6,none⟩=some (.map (some zf.mb))) (by kernel_rfl) ?_;rw[HVe.out];clear c6w;refine tC 0 ?_;refine tC 1 ?_;refine tC 2 ?_;refine tC 3 ?_;refine tC 4 ?_;refine tC 5 ?_;refine tC 6 ?_;refine tC 7 ?_;refine tC 8 ?_;refine tC 9 ?_;refine tC 11 ?_
   try simp only[sD]
   obtain⟨vI1,VJ⟩:=nE (sM zf inc cp u);obtain⟨I1,hI⟩:=nE (inc u)
   have lk:∀W',Off [] V1 W'→(Instr.lookup 134 (.map (some zf.mb)) (.int .u64 u) false).run Tryz.prog W'=.ok vI1 W':=λW' o=>by
    have:=(Tf.out.off o).QB (x:=u) hu
    rwa [VJ] at this
   have hown:V1.ownsRow 0 3 1 vI1 I1.length ((bH I1).map (Value.int .i64)):=by rw[←VJ,←hI];exact Tf.out.Q0 u
   have Zz:I1.length≤16384:=by
    have h1:=bG (l:=I1) (r:=List.range E) (by rw[←hI];exact Nu.out.1 u) λq hq=>by
     rw[←hI] at hq;exact List.mem_range.2 (Nu.out.2 u q hq)
    rw[List.length_range] at h1;have:=HL.out.2.1.1;omega
   have xw:(∀q y,M q=some y→q∈Tc.map (aJ xC))∧(Tc.map (aJ xC)).length<maxLen:=by
    refine⟨λq y hq=>?_,?_⟩
    ·have hk2:q∈zf.ks:=by
      by_cases c:q∈zf.ks
      ·exact c
      ·have:=Tf.out.ic.at_ q;rw[if_neg c,hq] at this;cases this
     obtain⟨i,hi,e⟩:=ajG.out q ((Tf.out.ic.ne q).1 hk2) (λy=>⟨λj hj=>(PR1.out.old j hj),PR1.out.mem y⟩);exact List.mem_map.2 ⟨i,hi,e⟩
    ·rw[List.length_map];obtain⟨_,_,m,ok⟩:=Tf.out.tb;have h1:=bG (r:=List.range xC.length) m.ar.nd λx hx=>List.mem_range.2 (ok.lt x hx);rw[List.length_range] at h1;have:=ok.le;have:=HL.out.2.1.2;unfold maxLen;omega
   have EW:∀(g cq:Nat) (kD:World),kD.ownsRow 0 3 1 (.slice (some ⟨g,0,none⟩) (I1.length+1:Nat) cq) (I1.length+1) ((bH I1).map (Value.int .i64)++#[Value.int .i64 k].toList)→V1.grownBy kD vI1.ownBlock→Moved V1 vI1 g→
     kD.cell? ⟨F.b,6,none⟩=some (.map (some zf.mb))∧∃iJ,(Instr.mapUpdate 134 (.map (some zf.mb)) (.int .u64 u) (.slice (some ⟨g,0,none⟩) (I1.length+1:Nat) cq)).run Tryz.prog kD=.ok () iJ∧iJ.cell? ⟨F.b,6,none⟩=some (.map (some zf.mb))∧
      eD iJ (zf.dQ u g) E V N n tV (.slice (some ⟨g7,0,none⟩) n cap) n c8 (k::s.U) xC Tc (λy=>if y=u then I1++[k] else inc y) (λy=>if y=u then cq else cp y) (fG M u (some (.slice (some ⟨g,0,none⟩) (I1.length+1:Nat) cq)))∧Bo zf.bl (zf.dQ u g).bl V1 iJ:=λg cq kD h1 h2 h3=>by
    rw[←VJ] at h2 h3;have hgl:=aN h1 rfl;obtain⟨b1,mp1⟩:=Tf.out.app h2 h3 hgl;obtain⟨iJ,hrun,TN,bm⟩:=mp1.upd (t:=134) Tryz.underlying25 Tryz.underlying134 hu xw.1 xw.2 (.slice (some ⟨g,0,none⟩) (I1.length+1:Nat) cq)
    have hcb:kD.cell? ⟨F.b,6,none⟩=some (.map (some zf.mb)):=by
     rw[←TD.out];exact(World.cell?_of_block ((Tf.out.rest (i:=5) b1).2 0 om _ (by simp[bD.aP]))).trans Tf.out.c6
    rw[←hI] at h1;rw[←hI] at TN;obtain⟨Cm,b12⟩:=Tf.out.aap h1 h2 h3 TN bm;rw[hI] at Cm;refine⟨hcb,iJ,hrun,?_,Cm,b12⟩;have:=Cm.c6;rw[show(zf.dQ u g).b=F.b from TD.out] at this;exact this
   have LK:=jh lk;have HOWN:=jh hown;have EW:=jh EW;have HI1:=jh hI;have hln:(I1.length+1)*8≤140737488355328:=om;have yS:I1.length+1≤9223372036854775807:=om;have hsz:0≤V1.heap.size:=Nat.zero_le _;clear lk hown Zz xw VJ hI;refine Py [10,12] ?_;apply tw
   ·intro TL;refine AllReadyH.cons rfl (λK hK=>?_) (AllReadyH.cons rfl (λK hK=>?_) AllReadyH.nil)
    ·have lk:=LK.out V1 (Off.refl _ _);go_simp;refine hK.out _ _ HS (λ_=>?_);clear hK;refine rC 12 λK hK=>?_
     have HS2:(V1.alloc (.cells #[.int .i64 k] 3)).cell? ⟨F.b,6,none⟩=some (.map (some zf.mb)):=by rw[←TD.out];exact(Tf.out.off ((Off.refl _ _).alloc _)).c6
     go_simp;refine hK.out _ _ HS2 (λ_=>?_);clear hK;exact TL
    ·have lk:=LK.out (V1.alloc (.cells #[.int .i64 k] 3)) ((Off.refl _ _).alloc _)
     have HS2:(V1.alloc (.cells #[.int .i64 k] 3)).cell? ⟨F.b,6,none⟩=some (.map (some zf.mb)):=by rw[←TD.out];exact(Tf.out.off ((Off.refl _ _).alloc _)).c6
     go_simp;refine hK.out _ _ HS2 (λ_=>?_);clear hK;refine rC 10 λK hK=>?_;go_simp;refine hK.out _ _ HS2 (λ_=>?_);clear hK;exact wl TL
   ·refine rC 13 λK hK=>?_;refine lX (w0:=V1) rfl Cw rfl _ _ rfl 0 vI1 I1.length _ HOWN.out rfl #[.int .i64 k] V1.heap.size rfl rfl rfl (by simp[Value.oneCell']) hln yS hsz ?_;intro ga cq kD j3 xK xI;obtain⟨HS,iJ,hup,yx,Cm,b12⟩:=EW.out ga cq kD j3 xK xI;have P12:=jh Cm;have B12:=jh b12;clear j3 xK xI Cm b12;simp only[Act.put,List.setIfInBounds_toArray];refine hK.out _ _ HS (λ_=>?_);clear hK;refine rC 14 λK hK=>?_;go_simp;refine hK.out _ _ yx (λ_=>?_);clear hK;refine dD ⟨rfl,?_⟩;clear HS yx hup;obtain⟨F2',V6⟩:=nE (zf.dQ u ga);have U7:=P12.out;have b13:=B12.out;rw[V6,←HI1.out] at U7;rw[V6] at b13;obtain⟨rw2,nb2⟩:=jD b13 aiU.out ai3.out
    have adI:F2'.b=F.b:=by rw[←V6];exact TD.out
    obtain⟨Ei,Ep⟩:∃i1,(λy=>if y=u then inc u++[k] else inc y)=i1:=⟨_,rfl⟩;obtain⟨cp1,hcp1⟩:∃c1,(λy=>if y=u then cq else cp y)=c1:=⟨_,rfl⟩;obtain⟨M1,hM1⟩:=nE ((fG M u (some (.slice (some ⟨ga,0,none⟩) ((inc u).length+1:Nat) cq))));rw[Ep,hcp1,hM1] at U7;have P13:=jh U7;have afi:=jh adI;have RW2:=jh rw2;have NB2:=jh nb2;have BB2:=jh ((BB1.out.trans BV1.out).trans b13)
    have aeQ:=jh (show(∃i∈Tc,aJ xC i=v)∨Tc.length<V from by
     by_cases c:s.has v
     ·obtain⟨i,hi,e⟩:=c;obtain⟨a,b⟩:=PR1.out.old i hi;exact .inl ⟨i,a,b.trans e⟩
     ·have h1:=HT.out.2.2;rw[St.iw c] at h1;simp only[bN] at h1
      by_cases cu:s.has u
      ·have h2:=U7.tb.QH (s.TU.map (aJ s.ids)) λi hi=>by
        rcases(PR1.out.mem _).1 ⟨i,hi,rfl⟩ with h |h
        ·exact St.fu.2 h
        ·rw[h];exact St.fu.2 cu
       rw[List.length_map] at h2;exact .inr om
      ·have h2:=U7.tb.QH (u::s.TU.map (aJ s.ids)) λi hi=>by
        rcases(PR1.out.mem _).1 ⟨i,hi,rfl⟩ with h |h
        ·exact List.mem_cons_of_mem _ (St.fu.2 h)
        ·rw[h];exact List.mem_cons_self ..
       rw[List.length_cons,List.length_map] at h2;rw[St.iw cu] at h1;simp only at h1
       exact .inr om)
    have afb:=jh (show(∀y,(Ei y).Nodup)∧∀y q,q∈Ei y→q<E from by
     have hni:∀y,k∉inc y:=λy hy=>HKb.out.1 ((HL.out.2.2.2.1 y k).1 hy).1;rw[←Ep];refine⟨λy=>?_,λy q hq=>?_⟩
     ·by_cases c:y=u
      ·simp only[if_pos c];exact List.nodup_append.2 ⟨Nu.out.1 u,sj,λa ha b hb e=>by simp at hb;subst hb;exact hni u (e▸ha)⟩
      ·simp only[if_neg c];exact Nu.out.1 y
     ·by_cases c:y=u
      ·simp only[if_pos c] at hq
       rcases List.mem_append.1 hq with h |h
       ·exact Nu.out.2 u q h
       ·rw[List.mem_singleton.1 h];exact HKb.out.2.1
      ·simp only[if_neg c] at hq;exact Nu.out.2 y q hq)
    have ajF:=jh (show ∀q,Ei q≠[]→∀{aZ:List Int} {pY:List Nat},(∀y,(∀j∈Tc,j∈pY∧aJ aZ j=aJ xC j)∧((∃j∈pY,aJ aZ j=y)↔(∃j∈Tc,aJ xC j=y)∨y=v))→∃i∈pY,aJ aZ i=q from λq hq {aZ pY} hp=>by
     refine((hp q).2).2 (.inl ((PR1.out.mem q).2 ?_))
     by_cases c:q=u
     ·exact .inr c
     ·rw[←Ep] at hq;simp only[if_neg c] at hq;obtain⟨r,hr⟩:=List.exists_mem_of_ne_nil _ hq;have h1:=(HL.out.2.2.2.1 q r).1 hr
      exact .inl ((HL.out.2.2.1.Ej q).2 ⟨r,h1.1,h1.2⟩))
    have afa:=jh Ep;clear U7 b13 rw2 nb2 adI V6 Ep hcp1 hM1 P12 B12;go_wp2;rw[rounds_succ]
    have c4:iJ.cell? ⟨F.b,4,none⟩=some (.pointer (some ⟨F2'.tb.h,0,none⟩)):=by rw[←afi.out];exact P13.out.c4
    go_wp2_with fail;refine(CZ P13.out.tb HL.out.1 (oC HL.out.2.1) v aeQ.out).mono ?_;rintro e w92 ⟨vv2,tb2,sP,Nk,rfl,t9,hh9,b9,pr⟩;have PR2:=jh pr;obtain⟨p9,bo9⟩:=P13.out.Pk t9 hh9 b9;obtain⟨ze,ZE⟩:∃F9,({ F2' with tb:=tb2 }:bD)=F9:=⟨_,rfl⟩
    have BH:ze.b=F.b:=by rw[←ZE];exact afi.out
    rw[ZE] at p9 bo9;obtain⟨V2,hV⟩:=nE w92.drew
    have pV:eD V2 ze E V N n tV (.slice (some ⟨g7,0,none⟩) n cap) n c8 (k::s.U) sP Nk Ei cp1 M1:=by rw[←hV];exact p9.keep λ_ _ _=>rfl
    have bV:Bo F2'.bl ze.bl iJ V2:=by rw[←hV];exact bo9.drew
    obtain⟨rwV,nbV⟩:=jD bV RW2.out NB2.out
    have HS:V2.cell? ⟨F.b,6,none⟩=some (.map (some ze.mb)):=by rw[←BH];exact pV.c6
    have c6w:w92.cell? ⟨F.b,6,none⟩=some (.map (some ze.mb)):=by rw[←BH];exact p9.c6
    have HVe:=jh hV;have TB:=jh BH;have Te:=jh pV;have BV2:=jh bV;have aiT:=jh rwV;have ai2:=jh nbV;clear t9 hh9 b9 pr p9 bo9 ZE BH hV pV bV rwV nbV c4;go_wp2;refine aj (λw'=>w'.cell? ⟨F.b,6,none⟩=some (.map (some ze.mb))) (by kernel_rfl) ?_;rw[HVe.out];clear c6w;refine tC 0 ?_;refine tC 1 ?_;refine tC 2 ?_;refine tC 3 ?_;refine tC 4 ?_;refine tC 5 ?_;refine tC 6 ?_;refine tC 7 ?_;refine tC 8 ?_;refine tC 9 ?_;refine tC 11 ?_
    try simp only[sD]
    obtain⟨vI2,VJ⟩:=nE (sM ze Ei cp1 v);obtain⟨I2,hI⟩:=nE (Ei v)
    have lk:∀W',Off [] V2 W'→(Instr.lookup 134 (.map (some ze.mb)) (.int .u64 v) false).run Tryz.prog W'=.ok vI2 W':=λW' o=>by
     have:=(Te.out.off o).QB (x:=v) hv
     rwa [VJ] at this
    have hown:V2.ownsRow 0 3 1 vI2 I2.length ((bH I2).map (Value.int .i64)):=by rw[←VJ,←hI];exact Te.out.Q0 v
    have Zz:I2.length≤16384:=by
     have h1:=bG (l:=I2) (r:=List.range E) (by rw[←hI];exact afb.out.1 v) λq hq=>by
      rw[←hI] at hq;exact List.mem_range.2 (afb.out.2 v q hq)
     rw[List.length_range] at h1;have:=HL.out.2.1.1;omega
    have xw:(∀q y,M1 q=some y→q∈Nk.map (aJ sP))∧(Nk.map (aJ sP)).length<maxLen:=by
     refine⟨λq y hq=>?_,?_⟩
     ·have hk2:q∈ze.ks:=by
       by_cases c:q∈ze.ks
       ·exact c
       ·have:=Te.out.ic.at_ q;rw[if_neg c,hq] at this;cases this
      obtain⟨i,hi,e⟩:=ajF.out q ((Te.out.ic.ne q).1 hk2) (λy=>⟨λj hj=>(PR2.out.old j hj),PR2.out.mem y⟩);exact List.mem_map.2 ⟨i,hi,e⟩
     ·rw[List.length_map];obtain⟨_,_,m,ok⟩:=Te.out.tb;have h1:=bG (r:=List.range sP.length) m.ar.nd λx hx=>List.mem_range.2 (ok.lt x hx);rw[List.length_range] at h1;have:=ok.le;have:=HL.out.2.1.2;unfold maxLen;omega
    have EW:∀(g cq:Nat) (kD:World),kD.ownsRow 0 3 1 (.slice (some ⟨g,0,none⟩) (I2.length+1:Nat) cq) (I2.length+1) ((bH I2).map (Value.int .i64)++#[Value.int .i64 k].toList)→V2.grownBy kD vI2.ownBlock→Moved V2 vI2 g→
      kD.cell? ⟨F.b,6,none⟩=some (.map (some ze.mb))∧∃iJ,(Instr.mapUpdate 134 (.map (some ze.mb)) (.int .u64 v) (.slice (some ⟨g,0,none⟩) (I2.length+1:Nat) cq)).run Tryz.prog kD=.ok () iJ∧iJ.cell? ⟨F.b,6,none⟩=some (.map (some ze.mb))∧
       eD iJ (ze.dQ v g) E V N n tV (.slice (some ⟨g7,0,none⟩) n cap) n c8 (k::s.U) sP Nk (λy=>if y=v then I2++[k] else Ei y) (λy=>if y=v then cq else cp1 y) (fG M1 v (some (.slice (some ⟨g,0,none⟩) (I2.length+1:Nat) cq)))∧Bo ze.bl (ze.dQ v g).bl V2 iJ:=λg cq kD h1 h2 h3=>by
     rw[←VJ] at h2 h3;have hgl:=aN h1 rfl;obtain⟨b1,mp1⟩:=Te.out.app h2 h3 hgl;obtain⟨iJ,hrun,TN,bm⟩:=mp1.upd (t:=134) Tryz.underlying25 Tryz.underlying134 hv xw.1 xw.2 (.slice (some ⟨g,0,none⟩) (I2.length+1:Nat) cq)
     have hcb:kD.cell? ⟨F.b,6,none⟩=some (.map (some ze.mb)):=by
      rw[←TB.out];exact(World.cell?_of_block ((Te.out.rest (i:=5) b1).2 0 om _ (by simp[bD.aP]))).trans Te.out.c6
     rw[←hI] at h1;rw[←hI] at TN;obtain⟨Cm,b12⟩:=Te.out.aap h1 h2 h3 TN bm;rw[hI] at Cm;refine⟨hcb,iJ,hrun,?_,Cm,b12⟩;have:=Cm.c6;rw[show(ze.dQ v g).b=F.b from TB.out] at this;exact this
    have LK:=jh lk;have HOWN:=jh hown;have EW:=jh EW;have HI2:=jh hI;have hln:(I2.length+1)*8≤140737488355328:=om;have yS:I2.length+1≤9223372036854775807:=om;have hsz:0≤V2.heap.size:=Nat.zero_le _;clear lk hown Zz xw VJ hI;refine Py [10,12] ?_;apply tw
    ·intro TL;refine AllReadyH.cons rfl (λK hK=>?_) (AllReadyH.cons rfl (λK hK=>?_) AllReadyH.nil)
     ·have lk:=LK.out V2 (Off.refl _ _);go_simp;refine hK.out _ _ HS (λ_=>?_);clear hK;refine rC 12 λK hK=>?_
      have HS2:(V2.alloc (.cells #[.int .i64 k] 3)).cell? ⟨F.b,6,none⟩=some (.map (some ze.mb)):=by rw[←TB.out];exact(Te.out.off ((Off.refl _ _).alloc _)).c6
      go_simp;refine hK.out _ _ HS2 (λ_=>?_);clear hK;exact TL
     ·have lk:=LK.out (V2.alloc (.cells #[.int .i64 k] 3)) ((Off.refl _ _).alloc _)
      have HS2:(V2.alloc (.cells #[.int .i64 k] 3)).cell? ⟨F.b,6,none⟩=some (.map (some ze.mb)):=by rw[←TB.out];exact(Te.out.off ((Off.refl _ _).alloc _)).c6
      go_simp;refine hK.out _ _ HS2 (λ_=>?_);clear hK;refine rC 10 λK hK=>?_;go_simp;refine hK.out _ _ HS2 (λ_=>?_);clear hK;exact wl TL
    ·refine rC 13 λK hK=>?_;refine lX (w0:=V2) rfl Cw rfl _ _ rfl 0 vI2 I2.length _ HOWN.out rfl #[.int .i64 k] V2.heap.size rfl rfl rfl (by simp[Value.oneCell']) hln yS hsz ?_;intro ga cq kD j3 xK xI;obtain⟨HS,iJ,hup,yx,Cm,b12⟩:=EW.out ga cq kD j3 xK xI;have P12:=jh Cm;have B12:=jh b12;clear j3 xK xI Cm b12;simp only[Act.put,List.setIfInBounds_toArray];refine hK.out _ _ HS (λ_=>?_);clear hK;refine rC 14 λK hK=>?_;go_simp;refine hK.out _ _ yx (λ_=>?_);clear hK;refine dD ⟨rfl,?_⟩;clear HS yx hup;obtain⟨F3',ZG⟩:=nE (ze.dQ v ga);have p15:=P12.out;have b15:=B12.out;rw[ZG,←HI2.out,←afa.out] at p15;rw[ZG] at b15;obtain⟨⟨rB,rR,rZ⟩,nb3⟩:=jD b15 aiT.out ai2.out
     have adH:F3'.b=F.b:=by rw[←ZG];exact TB.out
     have BB3:=((BB2.out.trans BV2.out).trans b15);obtain⟨s',iQ,h15,ir⟩:=p15.YP (inc:=inc) HL.out.1 HL.out.2.1 HL.out.2.2.1 HL.out.2.2.2.1 HL.out.2.2.2.2 HE.out.1 HKN.out HKb.out.2.1 HKb.out.1 HT.out.1 Ui.out HC.out.symm HC'.out PR1.out PR2.out;have H15:=jh h15;have IR:=jh ir;have afA:=jh BB3;have NB3:=jh nb3;have ajX:=jh adH;have q0:iJ.cell? ⟨B,0,none⟩=some (.int .i64 k):=rB.c 0;have q1:iJ.cell? ⟨B,1,none⟩=some (.int .u64 tV):=rB.c 1;have q2:iJ.cell? ⟨B,2,none⟩=some (.int .u64 u):=rB.c 2;have q3:iJ.cell? ⟨B,3,none⟩=some (.int .u64 v):=rB.c 3;have q4:iJ.cell? ⟨B,4,none⟩=some (.int .i64 x):=rB.c 4;have q5:iJ.cell? ⟨B,5,none⟩=some (.int .i64 t):=rB.c 5;have q6:iJ.cell? ⟨B,6,none⟩=some (.int .i64 ex):=rB.c 6;obtain⟨Z,hZ⟩:=nE (w.heap.size+1);rw[hZ] at rZ;have z0:iJ.cell? ⟨Z,0,none⟩=some (.int .i64 0):=rZ.c 0;have z1:iJ.cell? ⟨Z,1,none⟩=some (.int .u64 0):=rZ.c 1;have z2:iJ.cell? ⟨Z,2,none⟩=some (.int .u64 0):=rZ.c 2;have z3:iJ.cell? ⟨Z,3,none⟩=some (.int .u64 0):=rZ.c 3;have z4:iJ.cell? ⟨Z,4,none⟩=some (.int .i64 0):=rZ.c 4;have z5:iJ.cell? ⟨Z,5,none⟩=some (.int .i64 0):=rZ.c 5;have z6:iJ.cell? ⟨Z,6,none⟩=some (.int .i64 0):=rZ.c 6;have y0:=rZ.frozen 0;have y1:=rZ.frozen 1;have y2:=rZ.frozen 2;have y3:=rZ.frozen 3;have y4:=rZ.frozen 4;have y5:=rZ.frozen 5;have y6:=rZ.frozen 6;have RZ:=jh rZ;have HZ:=jh hZ;clear p15 b15 rB rR nb3 adH BB3 h15 ir rZ;go_wp2;rw[rounds_succ];go_wp2_with fail;obtain⟨Wf,hWf⟩:=nE ((((((((iJ.setCell ⟨Z,0,none⟩ (.int .i64 k)).setCell ⟨Z,1,none⟩ (.int .u64 tV)).setCell ⟨Z,2,none⟩ (.int .u64 u)).setCell ⟨Z,3,none⟩ (.int .u64 v)).setCell ⟨Z,4,none⟩ (.int .i64 x)).setCell ⟨Z,5,none⟩ (.int .i64 t)).setCell ⟨Z,6,none⟩ (.int .i64 ex)));rw[hWf];clear z0 z1 z2 z3 z4 z5 z6 y0 y1 y2 y3 y4 y5 y6 q0 q1 q2 q3 q4 q5 q6
     have CQ:Row Wf Z 7 (λi=>(#[Value.int .i64 k,.int .u64 tV,.int .u64 u,.int .u64 v,.int .i64 x,.int .i64 t,.int .i64 ex]:Array Value).getD i undef):=by
      rw[←hWf];refine(((((((RZ.out.set 0 _).set 1 _).set 2 _).set 3 _).set 4 _).set 5 _).set 6 _).congr λi hi=>?_
      match i,hi with
      |0,_ |1,_ |2,_ |3,_ |4,_ |5,_ |6,_=>rfl
      |k+7,e=>exact absurd e om
     have oZ:Off [Z] iJ Wf:=by
      rw[←hWf];exact(((((((Off.refl [Z] iJ).setCell (p:=⟨Z,0,none⟩) sj _).setCell (p:=⟨Z,1,none⟩) sj _).setCell (p:=⟨Z,2,none⟩) sj _).setCell (p:=⟨Z,3,none⟩) sj _).setCell (p:=⟨Z,4,none⟩) sj _).setCell (p:=⟨Z,5,none⟩) sj _).setCell (p:=⟨Z,6,none⟩) sj _
     have s0:Wf.cell? ⟨Z,0,none⟩=some (.int .i64 k):=CQ.c 0;have s1:Wf.cell? ⟨Z,1,none⟩=some (.int .u64 tV):=CQ.c 1;have s2:Wf.cell? ⟨Z,2,none⟩=some (.int .u64 u):=CQ.c 2;have s3:Wf.cell? ⟨Z,3,none⟩=some (.int .u64 v):=CQ.c 3;have s4:Wf.cell? ⟨Z,4,none⟩=some (.int .i64 x):=CQ.c 4;have s5:Wf.cell? ⟨Z,5,none⟩=some (.int .i64 t):=CQ.c 5;have s6:Wf.cell? ⟨Z,6,none⟩=some (.int .i64 ex):=CQ.c 6;clear hWf CQ;refine bodyPost_ret (v:=.tuple #[.agg #[.int .i64 k,.int .u64 tV,.int .u64 u,.int .u64 v,.int .i64 x,.int .i64 t,.int .i64 ex],.int .i64 0]) (by simp[results,Tryz.results47,go_sem,s0,s1,s2,s3,s4,s5,s6]) rfl ?_
     have Rm:Z∉F3'.bl:=by rw[←HZ.out];exact NB3.out.2.2
     exact⟨k,tV,F3',n,s',iQ,rfl,H15.out.keep λj hj=>oZ.block j (H15.out.lt j hj) (by simp;exact λe=>Rm (e▸hj)),ajX.out,⟨afA.out.off.trans oZ λj hj=>.inr (by simp at hj;rw[hj,←HZ.out];omega),afA.out.fQ⟩,IR.out⟩
  ·have d1:decide ((n:Int)≤k)=true:=dP om;have d2:decide (n≤k)=true:=dP om;have HM:=jh hM;have HBN:=jh hbn;have HKN:=jh hkn;have HOW:=jh P6.out.ow;rw[hlv] at HOW;have hsz:0≤wr.heap.size:=Nat.zero_le _;have hln:(n+1)*56≤140737488355328:=om;have yS:n+1≤9223372036854775807:=om;have Uj:=jh hlv;clear hM hbn hkn hlv
   go_wp2_with (at_builtin;refine push JN rfl _ _ rfl 0 _ _ _ HOW.out rfl #[.int .i64 0,.int .u64 0,.int .u64 0,.int .u64 0,.int .i64 0,.int .i64 0,.int .i64 0] _ rfl rfl rfl (by simp[Value.oneCell']) hln yS hsz ?_;intro g2 cp2 w7 Xv Rj hm7;refine Hid.out ?_)
   rw[←Uj.out] at Rj hm7;obtain⟨p7,BR⟩:=P6.out.adR Xv Rj hm7;obtain⟨F8,hF8⟩:∃F8,({ F' with lg:=some g2 }:bD)=F8:=⟨_,rfl⟩
   have adG:F8.b=F.b:=by rw[←hF8];exact tY.out
   rw[hF8] at p7 BR;have hne:∀q,q∉F'.aP 3→some q≠Lv.ownBlock:=λq hq e=>hq (P6.out.lg q e.symm);have hb0:F'.b∉F'.aP 3:=λc=>P6.out.sep 0 3 om F'.b (by simp[bD.aP]) c;have hrb:=P6.out.hr.of_block (Rj.block _ P6.out.hr.lt (hne _ hb0));rw[tY.out] at hrb
   have c5:w7.cell? ⟨F.b,5,none⟩=some (.slice a n cap):=by rw[←Uj.out];exact hrb.c 5
   have f5:=hrb.frozen 5;rw[tY.out] at p7 BR
   have hbb:F.b∈F'.bl:=by rw[←tY.out];exact bP.2 ⟨0,om,by simp[bD.aP]⟩
   have kB:∀q,q∉F'.bl→q<wr.heap.size→(w7.setCell ⟨F.b,5,none⟩ (.slice (some ⟨g2,0,none⟩) (n+1:Nat) cp2)).heap[q]?=wr.heap[q]?:=λq hq hl=>(aC q λe=>hq (by rw[show q=F.b from e];exact hbb)).trans (Rj.block q hl (hne q λc=>hq (bP.2 ⟨3,om,c⟩)));have z7:=Z6.out.of_block (kB B Fb.out.1 Z6.out.lt);have r7:=And.intro (R6.out.1.of_block (kB _ Fb.out.2.1 R6.out.1.lt)) (R6.out.2.of_block (kB _ Fb.out.2.2 R6.out.2.lt));have hnew:∀q,q∉F'.bl→q<wr.heap.size→q∉F8.bl:=λq hq hl c=>(BR.fQ q c).elim hq λe=>om;have HF8:=jh adG;have P7:=jh p7;have BO7:=jh (B6.out.trans BR);have Z7:=jh z7;have R7:=jh r7;have HBn:=jh (And.intro (hnew B Fb.out.1 Z6.out.lt) (And.intro (hnew _ Fb.out.2.1 R6.out.1.lt) (hnew _ Fb.out.2.2 R6.out.2.lt)));clear p7 BR hne hb0 hrb hbb kB z7 r7 hnew Xv Rj hm7 hF8 adG;refine jh ?_;go_wp2
   go_roundg (xY-(n+1))
   case measure=>have:=HM.out;have:=HKN.out;have:=HG.out;have:=HBN.out;omega
   case rel=>exact⟨n+1,_,_,_,oH HM.out HKN.out HG.out HBN.out,oC HBN.out,P7,HF8,BO7,Z7,R7,HBn,jh λr hr j hj=>by
    have h1:=(HB.out.2 r hr).1;have h2:=HBN.out
    rw[if_neg om];exact HC'.out r hr j hj⟩
end
end Go.Proofs.YtpaeogglppampaaGreatDoor
