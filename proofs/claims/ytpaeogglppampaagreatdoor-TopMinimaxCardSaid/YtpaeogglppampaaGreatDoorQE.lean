/- Lemmas of the proof. Conditions: as each one states. -/
import Derived.Test.YtpaeogglppampaaGreatDoorQv
import Derived.Test.YtpaeogglppampaaGreatDoorQB
import Derived.Laws.Cover3
set_option maxRecDepth 100000
set_option maxHeartbeats 16000000
namespace Go.Proofs.YtpaeogglppampaaGreatDoor
open Go.RowKit
structure ku where
 b:Nat
 lb:Nat
 lg:Nat
 mb:Nat
 hf:bY
def ku.bl (F:ku) (S:Nat):List Nat:=F.b::F.lb::F.lg::F.mb::F.hf.bl S
def GZ (f:Fs) (s:Nat):Value:=.agg #[.int .i64 (f.a s:Nat),.int .i64 (f.b s:Nat),.int .i64 (f.x s),.bool (f.t s)]
structure gD (w:World) (F:ku) (S V:Nat) (hl:Nat→Bool) (f:Fs):Prop where
 hr:∃tr:Int,Row w F.b 6 (λi=>(#[Value.int .i64 (V:Nat),.int .i64 (S:Nat),.pointer (some ⟨F.lb,0,none⟩),.pointer (some ⟨F.hf.h,0,none⟩),.map (some F.mb),.int .i64 tr]:Array Value).getD i undef)
 lc:∃key ed,qd w F.lb F.lg (S+V) key (tQ S f) ed∧(∀s,f.t s=true→key (s+1)=f.x s)∧∀v<V,key (S+v+1)=9223372036854775807
 q:∃L,oI w F.hf S L∧∀e,e∈L↔hl e.i=true∧e.k=f.x e.i
 mp:∃M,eO w 3 .i64 F.mb M∧(∀s:Nat,M (s:Int)=if f.lv s=true then some (GZ f s) else none)∧∀x y,M x=some y→∃s:Nat,x=(s:Int)∧f.lv s=true
 n1:F.b≠F.lb∧F.b≠F.lg∧F.b≠F.mb∧F.lb≠F.mb∧F.lg≠F.mb
 n2:F.b∉F.hf.bl S∧F.lb∉F.hf.bl S∧F.lg∉F.hf.bl S∧F.mb∉F.hf.bl S
 en:∀s,f.lv s=true→s<S∧f.a s<V∧f.b s<V∧f.a s≠f.b s∧f.x s≤9223372036854775807
 tl:∀s,f.t s=true→f.lv s=true
section
variable {w w':World} {F:ku} {S V:Nat} {f:Fs} {hl:Nat→Bool}
theorem gD.lt (h:gD w F S V hl f):∀j∈F.bl S,j<w.heap.size:=λj hj=>by
 obtain⟨_,hr⟩:=h.hr;obtain⟨_,_,lc,_⟩:=h.lc;obtain⟨_,q,_⟩:=h.q;obtain⟨_,mp,_⟩:=h.mp;unfold ku.bl at hj;simp only[List.mem_cons] at hj
 rcases hj with rfl |rfl |rfl |rfl |hj
 ·exact hr.lt
 ·exact lc.lt _ sj
 ·exact lc.lt _ sj
 ·exact mp.lt
 ·exact q.lt j hj
theorem gD.keep (h:gD w F S V hl f) (e:∀j∈F.bl S,w'.heap[j]?=w.heap[j]?):gD w' F S V hl f:=by
 obtain⟨tr,hr⟩:=h.hr;obtain⟨key,ed,lc,k1,k2⟩:=h.lc;obtain⟨L,q,hL⟩:=h.q;obtain⟨M,mp,m1,m2⟩:=h.mp;exact⟨⟨tr,hr.of_block (e _ (by simp[ku.bl]))⟩,⟨key,ed,lc.keep (λj hj=>e j (by unfold ku.bl;simp at hj⊢;omega)),k1,k2⟩,⟨L,q.keep (λj hj=>e j (by unfold ku.bl;simp[hj])),hL⟩,⟨M,mp.keep (e _ (by simp[ku.bl])),m1,m2⟩,h.n1,h.n2,h.en,h.tl⟩
theorem gD.off (h:gD w F S V hl f) (o:Off [] w w'):gD w' F S V hl f:=h.keep λj hj=>o.block j (h.lt j hj) sj
theorem gD.c0 (h:gD w F S V hl f):w.cell? ⟨F.b,0,none⟩=some (.int .i64 (V:Nat)):=by obtain⟨_,hr⟩:=h.hr;exact hr.c 0
theorem gD.c1 (h:gD w F S V hl f):w.cell? ⟨F.b,1,none⟩=some (.int .i64 (S:Nat)):=by obtain⟨_,hr⟩:=h.hr;exact hr.c 1
theorem gD.c2 (h:gD w F S V hl f):w.cell? ⟨F.b,2,none⟩=some (.pointer (some ⟨F.lb,0,none⟩)):=by obtain⟨_,hr⟩:=h.hr;exact hr.c 2
theorem gD.c3 (h:gD w F S V hl f):w.cell? ⟨F.b,3,none⟩=some (.pointer (some ⟨F.hf.h,0,none⟩)):=by obtain⟨_,hr⟩:=h.hr;exact hr.c 3
theorem gD.c4 (h:gD w F S V hl f):w.cell? ⟨F.b,4,none⟩=some (.map (some F.mb)):=by obtain⟨_,hr⟩:=h.hr;exact hr.c 4
theorem qQ (h:gD w F S V hl f):
  Calls Tryz.prog 53 #[.pointer (some ⟨F.b,0,none⟩)] w λe w'=>e=.returned (.bool true)∧w'=w:=by
 have c4:=h.c4;have eq:∀w,(binOp .neq 126 (.map (some F.mb)) (.map none)).run Tryz.prog w=.ok (.bool true) w:=λw=>run_neq_map_nil (P:=Tryz.prog) w 126 _ _ (some F.mb) Tryz.underlying126;clear h;go_in;go_wp2;go_ret;exact⟨rfl,rfl⟩
theorem oh (h:gD w F S V hl f) {v:Nat} (hv:v<V) (_:V≤65536):
  Calls Tryz.prog 67 #[.pointer (some ⟨F.b,0,none⟩),.int .i64 (v:Nat)] w λe w'=>e=.returned (.bool true)∧w'=w:=by
 have c0:=h.c0;have HV:=jh (qQ h);have d1:decide ((v:Int)≥0)=true:=dP om;have d2:decide ((v:Int)<V)=true:=dP om;have d3:decide (v<V)=true:=dP hv;clear h;go_in;go_wp2_with fail;apply mO HV;rintro e w1 ⟨rfl,rfl⟩;go_wp2;go_ret;exact⟨rfl,rfl⟩
theorem NW (w:World):(zeroValue 130).run Tryz.prog w=.ok (.agg #[.int .i64 0,.int .i64 0,.int .i64 0,.bool false]) w:=by kernel_rfl
theorem Yd {n:Nat} (h:n≤9223372036854775807):(Lit.int .i64 (n:Nat)).wf=true:=WalkArith.wf_i64 om
theorem gD.look (h:gD w F S V hl f) {s:Nat} (hs:s<S) (hS:S+V≤65535):
  (Instr.lookup 126 (.map (some F.mb)) (.int .i64 (s:Nat)) false).run Tryz.prog w=.ok (if f.lv s=true then GZ f s else .agg #[.int .i64 0,.int .i64 0,.int .i64 0,.bool false]) w:=by
 obtain⟨M,mp,m1,_⟩:=h.mp;have:=mp.look false (t:=126) Tryz.underlying3 Tryz.underlying126 (NW w) (x:=(s:Int)) (Yd om);rw[this,m1 s]
 cases f.lv s<;>rfl
theorem gD.acD (h:gD w F S V hl f) {s:Nat} (hs:s<S) (hS:S+V≤65535):
  (Instr.lookup 126 (.map (some F.mb)) (.int .i64 (s:Nat)) true).run Tryz.prog w=.ok (.tuple #[if f.lv s=true then GZ f s else .agg #[.int .i64 0,.int .i64 0,.int .i64 0,.bool false],.bool (f.lv s)]) w:=by
 obtain⟨M,mp,m1,_⟩:=h.mp;have:=mp.look true (t:=126) Tryz.underlying3 Tryz.underlying126 (NW w) (x:=(s:Int)) (Yd om);rw[this,m1 s]
 cases f.lv s<;>rfl
end
def Fs.tr (f:Fs) (s:Nat) (v:Bool):Fs:={ f with t:=λr=>if r=s then v else f.t r }
theorem Fs.mX {f:Fs} {s:Nat} {v:Bool} (s':Nat) (h:s'≠s):(f.tr s v).t s'=f.t s':=if_neg h
theorem Fs.wG {f:Fs} {s:Nat} {v:Bool}:(f.tr s v).t s=v:=if_pos rfl
theorem aeb {S:Nat} {f:Fs} {s:Nat} (hs:s<S) (ht:f.t s=false) (v u:Nat):
  tQ S (f.tr s true) v u↔((tQ S f v u∨v=s+1∧u=S+f.a s+1∨v=S+f.a s+1∧u=s+1)∨v=s+1∧u=S+f.b s+1∨v=S+f.b s+1∧u=s+1):=by
 constructor
 ·rintro⟨r,h1,h2⟩
  by_cases c:r=s
  ·subst c
   rcases h2 with⟨rfl,h |h⟩ |⟨rfl,h |h⟩
   ·exact .inl (.inr (.inl ⟨rfl,h⟩))
   ·exact .inr (.inl ⟨rfl,h⟩)
   ·exact .inl (.inr (.inr ⟨h,rfl⟩))
   ·exact .inr (.inr ⟨h,rfl⟩)
  ·rw[Fs.mX r c] at h1;exact .inl (.inl ⟨r,h1,h2⟩)
 ·rintro((⟨r,h1,h2⟩ |⟨rfl,h⟩ |⟨h,rfl⟩) |⟨rfl,h⟩ |⟨h,rfl⟩)
  ·refine⟨r,?_,h2⟩;rw[Fs.mX r (λe=>by rw[e,ht] at h1;exact nomatch h1)];exact h1
  ·exact⟨s,Fs.wG,.inl ⟨rfl,.inl h⟩⟩
  ·exact⟨s,Fs.wG,.inr ⟨rfl,.inl h⟩⟩
  ·exact⟨s,Fs.wG,.inl ⟨rfl,.inr h⟩⟩
  ·exact⟨s,Fs.wG,.inr ⟨rfl,.inr h⟩⟩
theorem aaq {S:Nat} {f:Fs} {s:Nat} (hs:s<S) (hl:∀r,f.t r=true→r<S) (v u:Nat):
  tQ S (f.tr s false) v u↔(tQ S f v u∧¬(v=s+1∧u=S+f.a s+1)∧¬(v=S+f.a s+1∧u=s+1))∧¬(v=s+1∧u=S+f.b s+1)∧¬(v=S+f.b s+1∧u=s+1):=by
 constructor
 ·rintro⟨r,h1,h2⟩
  have c:r≠s:=λe=>by rw[e,Fs.wG] at h1;exact nomatch h1
  rw[Fs.mX r c] at h1;have h2':=h2;have hr:=hl r h1
  refine⟨⟨⟨r,h1,h2'⟩,?_,?_⟩,?_,?_⟩<;>(intro h;change (v=r+1∧(u=S+f.a r+1∨u=S+f.b r+1)∨u=r+1∧(v=S+f.a r+1∨v=S+f.b r+1)) at h2;omega)
 ·rintro⟨⟨⟨r,h1,h2⟩,h3,h4⟩,h5,h6⟩
  have c:r≠s:=λe=>by subst e;omega
  exact⟨r,by rw[Fs.mX r c];exact h1,h2⟩
theorem SX {S:Nat} {f:Fs} {s a:Nat} (hs:s<S) (ht:f.t s=false) {x:Nat} (h:cZ (λv u=>tQ S f v u∨v=s+1∧u=S+a+1∨v=S+a+1∧u=s+1) (s+1) x):x=s+1∨cZ (tQ S f) (S+a+1) x:=by
 have iso:∀y,¬tQ S f (s+1) y∧¬tQ S f y (s+1):=λy=>⟨λ⟨r,h1,h2⟩=>by
   have c:r≠s:=λe=>by rw[e,ht] at h1;exact nomatch h1
   omega,λ⟨r,h1,h2⟩=>by
   have c:r≠s:=λe=>by rw[e,ht] at h1;exact nomatch h1
   omega⟩
 induction h with
 |refl=>exact .inl rfl
 |@step y z _ e ih=>
  rcases e with e |⟨rfl,rfl⟩ |⟨rfl,rfl⟩
  ·rcases ih with rfl |ih
   ·exact absurd e (iso _).1
   ·exact .inr (.step ih e)
  ·exact .inr .refl
  ·exact .inl rfl
theorem aar {S:Nat} {f:Fs} {s:Nat} (hs:s<S) (ht:f.t s=false) {x:Nat} (h:cZ (tQ S f) (s+1) x):x=s+1:=by
 induction h with
 |refl=>rfl
 |@step y z _ e ih=>
  subst ih;obtain⟨r,h1,h2⟩:=e
  have c:r≠s:=λe=>by rw[e,ht] at h1;exact nomatch h1
  omega
section
variable {w:World} {F:ku} {S V:Nat} {f:Fs} {s:Nat} {hl:Nat→Bool}
theorem gD.base (h:gD w F S V hl f):F.b<w.heap.size∧F.lb<w.heap.size∧F.lg<w.heap.size∧F.mb<w.heap.size∧∀j∈F.hf.bl S,j<w.heap.size:=
 ⟨h.lt _ (by simp[ku.bl]),h.lt _ (by simp[ku.bl]),h.lt _ (by simp[ku.bl]),h.lt _ (by simp[ku.bl]),λj hj=>h.lt j (by simp[ku.bl,hj])⟩
theorem gD.key (h:gD w F S V hl f) (hS:S+V≤65535):∀M:Int→Option Value,(∀x y,M x=some y→∃s:Nat,x=(s:Int)∧f.lv s=true)→(∀x y,M x=some y→x∈(List.range S).map fun(n:Nat)=>(n:Int))∧((List.range S).map fun(n:Nat)=>(n:Int)).length<maxLen:=λM m2=>
 ⟨λx y hx=>by
  obtain⟨s,rfl,hs⟩:=m2 x y hx
  exact List.mem_map.2 ⟨s,List.mem_range.2 (h.en s hs).1,rfl⟩,by rw[List.length_map,List.length_range];unfold maxLen;omega⟩
theorem vo (h:gD w F S V hl f) (hs:f.lv s=true) (ht:f.t s=false) (hn:¬cZ (tQ S f) (S+f.a s+1) (S+f.b s+1)) (hS:S+V≤65535):
  Calls Tryz.prog 97 #[.pointer (some ⟨F.b,0,none⟩),.int .i64 (s:Nat)] w λe w'=>e=.returned (.tuple #[])∧gD w' F S V hl (f.tr s true)∧Bo (F.bl S) (F.bl S) w w':=by
 obtain⟨sS,aV,bV,ab,xM⟩:=h.en s hs;obtain⟨A,hA⟩:=nE (f.a s);obtain⟨B,hB⟩:=nE (f.b s);obtain⟨X,hX⟩:=nE (f.x s);have lk:=h.look sS hS;rw[if_pos hs] at lk;unfold GZ at lk;rw[hA,hB,hX,ht] at lk;rw[hA] at aV ab hn;rw[hB] at bV ab hn;obtain⟨W1,hW1⟩:∃W,w.alloc (.cells #[.int .i64 A,.int .i64 B,.int .i64 X,.bool false] 130)=W:=⟨_,rfl⟩
 have o1:Off [] w W1:=by rw[←hW1];exact(Off.refl _ _).alloc _
 have h1:=h.off o1
 have z1:W1.heap.size=w.heap.size+1:=by rw[←hW1];simp
 have hr1:Row W1 w.heap.size 4 (λi=>(#[Value.int .i64 A,.int .i64 B,.int .i64 X,.bool false]:Array Value).getD i undef):=by
  rw[←hW1];exact Row.lit _ _ _ (Nat.le_refl _) lC
 have hbs:=h.base;obtain⟨key,ed,lc,kt,kv⟩:=h1.lc
 have RD:∀W,Off [F.lb,F.lg] W1 W→W.cell? ⟨F.b,2,none⟩=some (.pointer (some ⟨F.lb,0,none⟩))∧W.cell? ⟨F.b,1,none⟩=some (.int .i64 S)∧W.cell? ⟨w.heap.size,0,none⟩=some (.int .i64 A)∧W.cell? ⟨w.heap.size,1,none⟩=some (.int .i64 B)∧W.cell? ⟨w.heap.size,2,none⟩=some (.int .i64 X):=λW o=>by
  have eb:=o.block F.b om (by have:=h.n1;simp;omega);have ew:=hr1.of_block (o.block w.heap.size om (by simp;omega));exact⟨(World.cell?_of_block eb).trans h1.c2,(World.cell?_of_block eb).trans h1.c1,ew.c 0,ew.c 1,ew.c 2⟩
 have RD:=jh RD;have H:=jh h;have H1:=jh h1;have LC:=jh lc;have HR1:=jh hr1;have HW1:=jh hW1;have O1:=jh o1;have HB:=jh (And.intro hbs z1);have HQ:=jh (And.intro hs (And.intro ht (And.intro hn (And.intro hS (And.intro hA (And.intro hB hX))))));have HK:=jh (And.intro kt kv);obtain⟨PA,JH⟩:=nE (S+A);obtain⟨PB,Rp⟩:=nE (S+B);have wpa:(S:Int)+(A:Int)=(PA:Int):=om;have wpb:(S:Int)+(B:Int)=(PB:Int):=om;have HP:=jh (And.intro JH Rp);have bp:(0:Int)≤PA∧(PA:Int)≤65535∧(0:Int)≤PB∧(PB:Int)≤65535:=om;have c4:=h.c4;obtain⟨d2,d1,e0,e1,e2⟩:=RD.out W1 (Off.refl _ _);clear hA hB hX o1 h1 z1 hr1 hbs lc kt kv hW1 hs ht hn xM ab h JH Rp;go_in;go_wp2_with fail;rw[HW1.out]
 go_still_tail 8,(by kernel_rfl)
 clear d2 d1 e0 e1 e2 lk c4;go_wp2_with fail;refine(DW (LC.out.keep (w':=W1.drew) λ_ _=>rfl) (a:=s) om om X).mono ?_;rintro e w2 ⟨rfl,l2,o2⟩;have O2:=jh ((Off.refl [F.lb,F.lg] W1).drew.trans o2 (λj hj=>.inl (by simp at hj;simp[hj])));have L2:=jh l2;obtain⟨d2,d1,e0,e1,e2⟩:=RD.out w2 O2.out;clear l2 o2 LC;go_wp2
 go_still_tail 13,(by kernel_rfl)
 clear d2 d1 e0 e1 e2;go_wp2_with fail;refine(zM (L2.out.keep (w':=w2.drew) λ_ _=>rfl) (a:=s) (c:=PA) om (oC HP.out) (oC HP.out) (λc=>oD (aar sS HQ.out.2.1 c) HP.out) om).mono ?_;rintro e w3 ⟨rfl,⟨ed3,l3⟩,o3⟩;have O3:=jh (O2.out.drew.trans o3 (λj hj=>.inl hj));have L3:=jh l3;obtain⟨d2,d1,e0,e1,e2⟩:=RD.out w3 O3.out;clear l3 o3 L2 O2;go_wp2
 go_still_tail 13,(by kernel_rfl)
 clear d2 d1 e0 e1 e2;go_wp2_with fail
 refine(zM (L3.out.keep (w':=w3.drew) λ_ _=>rfl) (a:=s) (c:=PB) om (oC HP.out) (oC HP.out) (λc=>by
  rw[←HP.out.1] at c
  rcases SX sS HQ.out.2.1 c with e |e
  ·have:=HP.out;omega
  ·rw[←HP.out.2] at e;exact HQ.out.2.2.1 e) om).mono ?_
 rintro e w4 ⟨rfl,⟨ed4,l4⟩,o4⟩;have O4:=jh (O3.out.drew.trans o4 (λj hj=>.inl hj));have z4:=O4.out.size;have nlg:w.heap.size≠F.lb∧w.heap.size≠F.lg:=oC HB.out;have r4:=HR1.out.of_block (O4.out.block w.heap.size (oC HB.out) (by simp;omega));obtain⟨W5,kZ⟩:=nE (w4.setCell ⟨w.heap.size,3,none⟩ (.bool true));have r5:=r4.set 3 (.bool true);rw[kZ] at r5
 have O5:Off [w.heap.size] w4 W5:=by rw[←kZ];exact(Off.refl _ _).setCell sj _
 have RS:∀j∈F.b::F.mb::F.hf.bl S,W5.heap[j]?=W1.heap[j]?:=λj hj=>by
  have hj1:j<w.heap.size:=by
   have:=HB.out.1;simp only[List.mem_cons] at hj
   rcases hj with rfl |rfl |hj
   ·exact this.1
   ·exact this.2.2.2.1
   ·exact this.2.2.2.2 j hj
  have hj2:j∉[F.lb,F.lg]:=by
   have n1:=H.out.n1;have n2:=H.out.n2;simp only[List.mem_cons] at hj;simp only[List.mem_cons,List.not_mem_nil,or_false,not_or]
   rcases hj with rfl |rfl |hj
   ·exact⟨n1.1,n1.2.1⟩
   ·exact⟨λe=>n1.2.2.2.1 e.symm,λe=>n1.2.2.2.2 e.symm⟩
   ·exact⟨λe=>n2.2.1 (e▸hj),λe=>n2.2.2.1 (e▸hj)⟩
  exact(O5.block j (oC HB.out) (by simp;omega)).trans (O4.out.block j (oC HB.out) hj2)
 have g3:w4.cell? ⟨w.heap.size,3,none⟩=some (.bool false):=r4.c 3;have g4:=r4.frozen 3;have e0:W5.cell? ⟨w.heap.size,0,none⟩=some (.int .i64 A):=r5.c 0;have e1:W5.cell? ⟨w.heap.size,1,none⟩=some (.int .i64 B):=r5.c 1;have e2:W5.cell? ⟨w.heap.size,2,none⟩=some (.int .i64 X):=r5.c 2;have e3:W5.cell? ⟨w.heap.size,3,none⟩=some (.bool true):=r5.c 3;have d4:W5.cell? ⟨F.b,4,none⟩=some (.map (some F.mb)):=(World.cell?_of_block (RS F.b sj)).trans H1.out.c4;obtain⟨M,mp,m1,m2⟩:=H1.out.mp;have Xn:=(mp.keep (w':=W5) (RS F.mb sj)).keep (w':=W5.drew) rfl;obtain⟨hK1,hK2⟩:=H1.out.key HQ.out.2.2.2.1 M m2;obtain⟨w6,hup,DN,pG⟩:=Xn.upd (t:=126) Tryz.underlying3 Tryz.underlying126 (Yd (n:=s) om) hK1 hK2 (.agg #[.int .i64 A,.int .i64 B,.int .i64 X,.bool true]);obtain⟨tr,hr⟩:=H1.out.hr;have Xu:=hr.of_block (RS F.b sj);have kI:=Xu.of_block (pG.off.block F.b (by have:=HB.out;have:=O5.size;have:=O4.out.size;show F.b<W5.heap.size;omega) (by have:=H.out.n1;simp;omega));have d5:w6.cell? ⟨F.b,5,none⟩=some (.int .i64 tr):=kI.c 5;have f5:=kI.frozen 5;have HR6:=jh kI;have MP6:=jh DN;have BO6:=jh pG;have EB5:=jh RS;have O5':=jh O5;have L4:=jh l4;have M1:=jh m1;have M2:=jh m2;have NLG:=jh nlg;have XR:=jh kZ;clear l4 o4 L3 O3 z4 nlg r4 r5 kI Xu hr Xn mp m1 m2 DN pG RS O5 hK1 hK2;go_wp2_with fail;clear g3 g4 kZ
 go_still_tail 6,(by kernel_rfl)
 clear e0 e1 e2 e3 d4;go_wp2;go_end0;have hs':=HB.out.1;have O6:=BO6.out.off
 have Ec:∀j<w.heap.size,j≠F.b→j≠F.mb→(w6.setCell ⟨F.b,5,none⟩ (.int .i64 (wrap64 (tr+1)))).heap[j]?=W5.heap[j]?:=λj h1 h2 h3=>by
  have e1:=O5'.out.size;have e2:=O4.out.size;have e3:=HB.out.2;exact(aC j h2).trans (O6.block j (by show j<W5.heap.size;omega) (by simpa using h3))
 have kL:∀j∈[F.lb,F.lg],(w6.setCell ⟨F.b,5,none⟩ (.int .i64 (wrap64 (tr+1)))).heap[j]?=w4.heap[j]?:=λj hj=>by
  have n1:=H.out.n1;have e2:=O4.out.size;have e3:=HB.out.2
  have hj2:j<w.heap.size∧j≠F.b∧j≠F.mb:=by simp at hj;omega
  exact(Ec j hj2.1 hj2.2.1 hj2.2.2).trans (O5'.out.block j om (by simp;omega))
 obtain⟨L,hq,hL⟩:=H1.out.q;have n2:=H.out.n2;refine⟨rfl,⟨⟨wrap64 (tr+1),((HR6.out.set 5 (.int .i64 (wrap64 (tr+1)))).congr λi hi=>?_)⟩,⟨_,ed4,(L4.out.keep kL).iff (λv u=>?_) (λ_=>rfl),λs' hs1=>?_,λv hv=>?_⟩,⟨L,hq.keep λj hj=>(Ec j (hs'.2.2.2.2 j hj) (λe=>n2.1 (e▸hj)) (λe=>n2.2.2.2 (e▸hj))).trans (EB5.out j (by simp[hj])),hL⟩,⟨_,MP6.out.keep (aC _ (λe=>H.out.n1.2.2.1 e.symm)),λs'=>?_,λx y hx=>?_⟩,H.out.n1,n2,H.out.en,λs' hs1=>?_⟩,⟨?_,λj hj=>.inl hj⟩⟩
 ·match i,hi with
  |0,_=>rfl
  |1,_=>rfl
  |2,_=>rfl
  |3,_=>rfl
  |4,_=>rfl
  |5,_=>rfl
  |k+6,e=>exact absurd e om
 ·rw[aeb sS HQ.out.2.1,HQ.out.2.2.2.2.1,HQ.out.2.2.2.2.2.1,HP.out.1,HP.out.2]
 ·by_cases c:s'=s
  ·subst c;simp;exact HQ.out.2.2.2.2.2.2.symm
  ·rw[Fs.mX s' c] at hs1;rw[if_neg om];exact HK.out.1 s' hs1
 ·rw[if_neg om];exact HK.out.2 v hv
 ·unfold fG
  by_cases c:s'=s
  ·subst c;rw[if_pos rfl,show(f.tr s' true).lv s'=f.lv s' from rfl,if_pos HQ.out.1];unfold GZ;rw[Fs.wG,show(f.tr s' true).a s'=A from HQ.out.2.2.2.2.1,show(f.tr s' true).b s'=B from HQ.out.2.2.2.2.2.1,show(f.tr s' true).x s'=X from HQ.out.2.2.2.2.2.2]
  ·rw[if_neg om,M1.out s']
   show _=if f.lv s'=true then _ else _
   unfold GZ;rw[Fs.mX s' c];rfl
 ·unfold fG at hx
  by_cases c:x=(s:Int)
  ·exact⟨s,c,HQ.out.1⟩
  ·rw[if_neg c] at hx;exact M2.out x y hx
 ·by_cases c:s'=s
  ·subst c;exact HQ.out.1
  ·rw[Fs.mX s' c] at hs1;exact H.out.tl s' hs1
 ·have e3:=HB.out.2;have t1:Off (F.bl S) w w4:=(O1.out.mono (S':=F.bl S) λj hj=>by cases hj).trans O4.out (λj hj=>.inl (by simp at hj;simp[ku.bl];omega));have t2:Off (F.bl S) w W5:=t1.trans O5'.out (λj hj=>.inr (by simp at hj;omega));exact(t2.drew.trans O6 (λj hj=>.inl (by simp at hj;simp[ku.bl,hj]))).setCell (p:=⟨F.b,5,none⟩) (by simp[ku.bl]) _
end
section
variable {w:World} {F:ku} {S V:Nat} {f:Fs} {s:Nat} {hl:Nat→Bool}
theorem vk (h:gD w F S V hl f) (hs:f.lv s=true) (ht:f.t s=true) (hS:S+V≤65535):
  Calls Tryz.prog 55 #[.pointer (some ⟨F.b,0,none⟩),.int .i64 (s:Nat)] w λe w'=>e=.returned (.tuple #[])∧gD w' F S V hl (f.tr s false)∧Bo (F.bl S) (F.bl S) w w':=by
 obtain⟨sS,aV,bV,ab,xM⟩:=h.en s hs;obtain⟨A,hA⟩:=nE (f.a s);obtain⟨B,hB⟩:=nE (f.b s);obtain⟨X,hX⟩:=nE (f.x s);have lk:=h.look sS hS;rw[if_pos hs] at lk;unfold GZ at lk;rw[hA,hB,hX,ht] at lk;rw[hA] at aV ab;rw[hB] at bV ab;obtain⟨W1,hW1⟩:∃W,w.alloc (.cells #[.int .i64 A,.int .i64 B,.int .i64 X,.bool true] 130)=W:=⟨_,rfl⟩
 have o1:Off [] w W1:=by rw[←hW1];exact(Off.refl _ _).alloc _
 have h1:=h.off o1
 have z1:W1.heap.size=w.heap.size+1:=by rw[←hW1];simp
 have hr1:Row W1 w.heap.size 4 (λi=>(#[Value.int .i64 A,.int .i64 B,.int .i64 X,.bool true]:Array Value).getD i undef):=by
  rw[←hW1];exact Row.lit _ _ _ (Nat.le_refl _) lC
 have hbs:=h.base;obtain⟨key,ed,lc,kt,kv⟩:=h1.lc
 have RD:∀W,Off [F.lb,F.lg] W1 W→W.cell? ⟨F.b,2,none⟩=some (.pointer (some ⟨F.lb,0,none⟩))∧W.cell? ⟨F.b,1,none⟩=some (.int .i64 S)∧W.cell? ⟨w.heap.size,0,none⟩=some (.int .i64 A)∧W.cell? ⟨w.heap.size,1,none⟩=some (.int .i64 B):=λW o=>by
  have eb:=o.block F.b om (by have:=h.n1;simp;omega);have ew:=hr1.of_block (o.block w.heap.size om (by simp;omega));exact⟨(World.cell?_of_block eb).trans h1.c2,(World.cell?_of_block eb).trans h1.c1,ew.c 0,ew.c 1⟩
 have RD:=jh RD;have H:=jh h;have H1:=jh h1;have LC:=jh lc;have HR1:=jh hr1;have HW1:=jh hW1;have O1:=jh o1;have HB:=jh (And.intro hbs z1);have HQ:=jh (And.intro hs (And.intro ht (And.intro ab (And.intro hS (And.intro hA (And.intro hB hX))))));have HK:=jh (And.intro kt kv);obtain⟨PA,JH⟩:=nE (S+A);obtain⟨PB,Rp⟩:=nE (S+B);have wpa:(S:Int)+(A:Int)=(PA:Int):=om;have wpb:(S:Int)+(B:Int)=(PB:Int):=om;have HP:=jh (And.intro JH Rp);have bp:(0:Int)≤PA∧(PA:Int)≤65535∧(0:Int)≤PB∧(PB:Int)≤65535:=om;have c4:=h.c4;obtain⟨d2,d1,e0,e1⟩:=RD.out W1 (Off.refl _ _);clear hA hB hX o1 h1 z1 hr1 hbs lc kt kv hW1 hs ht xM ab h JH Rp;go_in;go_wp2_with fail;rw[HW1.out]
 go_still_tail 13,(by kernel_rfl)
 clear d2 d1 e0 e1 lk c4;go_wp2_with fail;refine(D6 (LC.out.keep (w':=W1.drew) λ_ _=>rfl) (a:=s) (c:=PA) om (oC HP.out) (oC HP.out) ⟨s,HQ.out.2.1,.inl ⟨rfl,.inl (by rw[HQ.out.2.2.2.2.1,HP.out.1])⟩⟩ om).mono ?_;rintro e w3 ⟨rfl,⟨ed3,l3⟩,o3⟩;have O3:=jh ((Off.refl [F.lb,F.lg] W1).drew.trans o3 (λj hj=>.inl hj));have L3:=jh l3;obtain⟨d2,d1,e0,e1⟩:=RD.out w3 O3.out;clear l3 o3 LC;go_wp2
 go_still_tail 13,(by kernel_rfl)
 clear d2 d1 e0 e1;go_wp2_with fail;refine(D6 (L3.out.keep (w':=w3.drew) λ_ _=>rfl) (a:=s) (c:=PB) om (oC HP.out) (oC HP.out) ⟨⟨s,HQ.out.2.1,.inl ⟨rfl,.inr (by rw[HQ.out.2.2.2.2.2.1,HP.out.2])⟩⟩,(oD HP.out HQ.out.2.2.1),(oC HP.out)⟩ om).mono ?_;rintro e w4 ⟨rfl,⟨ed4,l4⟩,o4⟩;have O4:=jh (O3.out.drew.trans o4 (λj hj=>.inl hj));have z4:=O4.out.size;have nlg:w.heap.size≠F.lb∧w.heap.size≠F.lg:=oC HB.out;have r4:=HR1.out.of_block (O4.out.block w.heap.size (oC HB.out) (by simp;omega));obtain⟨W5,kZ⟩:=nE (w4.setCell ⟨w.heap.size,3,none⟩ (.bool false));have r5:=r4.set 3 (.bool false);rw[kZ] at r5
 have O5:Off [w.heap.size] w4 W5:=by rw[←kZ];exact(Off.refl _ _).setCell sj _
 have RS:∀j∈F.b::F.mb::F.hf.bl S,W5.heap[j]?=W1.heap[j]?:=λj hj=>by
  have hj1:j<w.heap.size:=by
   have:=HB.out.1;simp only[List.mem_cons] at hj
   rcases hj with rfl |rfl |hj
   ·exact this.1
   ·exact this.2.2.2.1
   ·exact this.2.2.2.2 j hj
  have hj2:j∉[F.lb,F.lg]:=by
   have n1:=H.out.n1;have n2:=H.out.n2;simp only[List.mem_cons] at hj;simp only[List.mem_cons,List.not_mem_nil,or_false,not_or]
   rcases hj with rfl |rfl |hj
   ·exact⟨n1.1,n1.2.1⟩
   ·exact⟨λe=>n1.2.2.2.1 e.symm,λe=>n1.2.2.2.2 e.symm⟩
   ·exact⟨λe=>n2.2.1 (e▸hj),λe=>n2.2.2.1 (e▸hj)⟩
  exact(O5.block j (oC HB.out) (by simp;omega)).trans (O4.out.block j (oC HB.out) hj2)
 have g3:w4.cell? ⟨w.heap.size,3,none⟩=some (.bool true):=r4.c 3;have g4:=r4.frozen 3;have e0:W5.cell? ⟨w.heap.size,0,none⟩=some (.int .i64 A):=r5.c 0;have e1:W5.cell? ⟨w.heap.size,1,none⟩=some (.int .i64 B):=r5.c 1;have e2:W5.cell? ⟨w.heap.size,2,none⟩=some (.int .i64 X):=r5.c 2;have e3:W5.cell? ⟨w.heap.size,3,none⟩=some (.bool false):=r5.c 3;have d4:W5.cell? ⟨F.b,4,none⟩=some (.map (some F.mb)):=(World.cell?_of_block (RS F.b sj)).trans H1.out.c4;obtain⟨M,mp,m1,m2⟩:=H1.out.mp;have Xn:=(mp.keep (w':=W5) (RS F.mb sj)).keep (w':=W5.drew) rfl;obtain⟨hK1,hK2⟩:=H1.out.key HQ.out.2.2.2.1 M m2;obtain⟨w6,hup,DN,pG⟩:=Xn.upd (t:=126) Tryz.underlying3 Tryz.underlying126 (Yd (n:=s) om) hK1 hK2 (.agg #[.int .i64 A,.int .i64 B,.int .i64 X,.bool false]);obtain⟨tr,hr⟩:=H1.out.hr;have Xu:=hr.of_block (RS F.b sj);have kI:=Xu.of_block (pG.off.block F.b (by have:=HB.out;have:=O5.size;have:=O4.out.size;show F.b<W5.heap.size;omega) (by have:=H.out.n1;simp;omega));have d5:w6.cell? ⟨F.b,5,none⟩=some (.int .i64 tr):=kI.c 5;have f5:=kI.frozen 5;have HR6:=jh kI;have MP6:=jh DN;have BO6:=jh pG;have EB5:=jh RS;have O5':=jh O5;have L4:=jh l4;have M1:=jh m1;have M2:=jh m2;have NLG:=jh nlg;have XR:=jh kZ;clear l4 o4 L3 O3 z4 nlg r4 r5 kI Xu hr Xn mp m1 m2 DN pG RS O5 hK1 hK2;go_wp2_with fail;clear g3 g4 kZ
 go_still_tail 6,(by kernel_rfl)
 clear e0 e1 e2 e3 d4;go_wp2;go_end0;have hs':=HB.out.1;have O6:=BO6.out.off
 have Ec:∀j<w.heap.size,j≠F.b→j≠F.mb→(w6.setCell ⟨F.b,5,none⟩ (.int .i64 (wrap64 (tr-1)))).heap[j]?=W5.heap[j]?:=λj h1 h2 h3=>by
  have e1:=O5'.out.size;have e2:=O4.out.size;have e3:=HB.out.2;exact(aC j h2).trans (O6.block j (by show j<W5.heap.size;omega) (by simpa using h3))
 have kL:∀j∈[F.lb,F.lg],(w6.setCell ⟨F.b,5,none⟩ (.int .i64 (wrap64 (tr-1)))).heap[j]?=w4.heap[j]?:=λj hj=>by
  have n1:=H.out.n1;have e2:=O4.out.size;have e3:=HB.out.2
  have hj2:j<w.heap.size∧j≠F.b∧j≠F.mb:=by simp at hj;omega
  exact(Ec j hj2.1 hj2.2.1 hj2.2.2).trans (O5'.out.block j om (by simp;omega))
 obtain⟨L,hq,hL⟩:=H1.out.q;have n2:=H.out.n2;refine⟨rfl,⟨⟨wrap64 (tr-1),((HR6.out.set 5 (.int .i64 (wrap64 (tr-1)))).congr λi hi=>?_)⟩,⟨_,ed4,(L4.out.keep kL).iff (λv u=>?_) (λ_=>rfl),λs' hs1=>?_,λv hv=>?_⟩,⟨L,hq.keep λj hj=>(Ec j (hs'.2.2.2.2 j hj) (λe=>n2.1 (e▸hj)) (λe=>n2.2.2.2 (e▸hj))).trans (EB5.out j (by simp[hj])),hL⟩,⟨_,MP6.out.keep (aC _ (λe=>H.out.n1.2.2.1 e.symm)),λs'=>?_,λx y hx=>?_⟩,H.out.n1,n2,H.out.en,λs' hs1=>?_⟩,⟨?_,λj hj=>.inl hj⟩⟩
 ·match i,hi with
  |0,_=>rfl
  |1,_=>rfl
  |2,_=>rfl
  |3,_=>rfl
  |4,_=>rfl
  |5,_=>rfl
  |k+6,e=>exact absurd e om
 ·rw[aaq sS (λr hr=>(H.out.en r (H.out.tl r hr)).1),HQ.out.2.2.2.2.1,HQ.out.2.2.2.2.2.1,HP.out.1,HP.out.2]
 ·by_cases c:s'=s
  ·subst c;rw[Fs.wG] at hs1;exact nomatch hs1
  ·rw[Fs.mX s' c] at hs1;exact HK.out.1 s' hs1
 ·exact HK.out.2 v hv
 ·unfold fG
  by_cases c:s'=s
  ·subst c;rw[if_pos rfl,show(f.tr s' false).lv s'=f.lv s' from rfl,if_pos HQ.out.1];unfold GZ;rw[Fs.wG,show(f.tr s' false).a s'=A from HQ.out.2.2.2.2.1,show(f.tr s' false).b s'=B from HQ.out.2.2.2.2.2.1,show(f.tr s' false).x s'=X from HQ.out.2.2.2.2.2.2]
  ·rw[if_neg om,M1.out s']
   show _=if f.lv s'=true then _ else _
   unfold GZ;rw[Fs.mX s' c];rfl
 ·unfold fG at hx
  by_cases c:x=(s:Int)
  ·exact⟨s,c,HQ.out.1⟩
  ·rw[if_neg c] at hx;exact M2.out x y hx
 ·by_cases c:s'=s
  ·subst c;exact HQ.out.1
  ·rw[Fs.mX s' c] at hs1;exact H.out.tl s' hs1
 ·have e3:=HB.out.2;have t1:Off (F.bl S) w w4:=(O1.out.mono (S':=F.bl S) λj hj=>by cases hj).trans O4.out (λj hj=>.inl (by simp at hj;simp[ku.bl];omega));have t2:Off (F.bl S) w W5:=t1.trans O5'.out (λj hj=>.inr (by simp at hj;omega));exact(t2.drew.trans O6 (λj hj=>.inl (by simp at hj;simp[ku.bl,hj]))).setCell (p:=⟨F.b,5,none⟩) (by simp[ku.bl]) _
end
section
variable {S V:Nat} {f:Fs} {s a b m:Nat} {x:Int}
theorem SY (ht:f.t s=false) (v u:Nat):tQ S (f.add s a b x false) v u↔tQ S f v u:=by
 constructor
 ·rintro⟨r,h1,h2⟩
  have c:r≠s:=λe=>by rw[e,(Fs.add_eq (f:=f)).2.2.2.2] at h1;exact nomatch h1
  obtain⟨q1,q2,q3,q4,q5⟩:=Fs.gL (f:=f) (s:=s) (a:=a) (b:=b) (x:=x) (t:=false) c;rw[q5] at h1;rw[q2,q3] at h2;exact⟨r,h1,h2⟩
 ·rintro⟨r,h1,h2⟩
  have c:r≠s:=λe=>by rw[e,ht] at h1;exact nomatch h1
  obtain⟨q1,q2,q3,q4,q5⟩:=Fs.gL (f:=f) (s:=s) (a:=a) (b:=b) (x:=x) (t:=false) c;refine⟨r,q5.trans h1,?_⟩;rw[q2,q3];exact h2
theorem aao (f:Fs):(f.add s a b x false).tr s true=f.add s a b x true:=by
 unfold Fs.tr Fs.add
 congr 1
 funext r
 by_cases c:r=s<;>simp[c]
theorem SQ (f:Fs):((f.add s a b x false).tr m false).tr s true=(f.out m).add s a b x true:=by
 unfold Fs.tr Fs.add Fs.out
 congr 1
 funext r
 by_cases c:r=s<;>simp[c]
theorem MJ (ok:gM S V f) (_:f.lv s=false) (hm:m<S) (hx:¬Ct f (λr=>f.t r=true∧r≠m) a b):¬cZ (tQ S ((f.add s a b x false).tr m false)) (S+a+1) (S+b+1):=by
 intro h
 have h2:cZ (λv w=>tQ S f v w∧v≠m+1∧w≠m+1) (S+a+1) (S+b+1):=h.mono λv w ⟨r,h1,h2⟩=>by
  have c:r≠m:=λe=>by rw[e,Fs.wG] at h1;exact nomatch h1
  rw[Fs.mX r c] at h1
  have c2:r≠s:=λe=>by rw[e,(Fs.add_eq (f:=f)).2.2.2.2] at h1;exact nomatch h1
  obtain⟨q1,q2,q3,q4,q5⟩:=Fs.gL (f:=f) (s:=s) (a:=a) (b:=b) (x:=x) (t:=false) c2;rw[q5] at h1;change (v=r+1∧(w=S+(f.add s a b x false).a r+1∨w=S+(f.add s a b x false).b r+1)∨w=r+1∧(v=S+(f.add s a b x false).a r+1∨v=S+(f.add s a b x false).b r+1)) at h2;rw[q2,q3] at h2;exact⟨⟨r,h1,h2⟩,om,om⟩
 exact hx ((ok.to (Q:=λy=>y≠m+1) h2).1 b rfl |>Ct.mono λr hr=>⟨⟨hr.1,om⟩,rfl,rfl⟩)
theorem Kq (ok:gM S V f) {key:Nat→Int} {L:List Nat} {g:Nat} (hab:a≠b) (hV:∀v<V,key (S+v+1)=9223372036854775807) (ht:∀s,f.t s=true→key (s+1)=f.x s) (hx:∀s,f.t s=true→f.x s≤9223372036854775807)
  (W:S9 (S+V) key (tQ S f) (S+a+1) (S+b+1) L (g+1)):f.t g=true∧Ct f (λr=>f.t r=true∧(r=g∨f.bf g r)) a b∧¬Ct f (λr=>f.t r=true∧r≠g) a b:=by
 obtain⟨r,h1,h2,h3,h4⟩:=ok.first (σ:=λx=>⟨0,0,0,false,key x,0,0⟩) 9223372036854775807 hab hV ht hx (L:=L) (m:=g+1) ⟨W.mem,λz hz=>by
  have:=W.least z hz;unfold Bf;show z=g+1∨key (g+1)<key z∨key (g+1)=key z∧g+1<z
  omega⟩ W.rng W.way W.rch W.cut
 obtain rfl:g=r:=om;exact⟨h2,h3,h4⟩
theorem SV (ok:gM S V f) (hn:f.lv s=false) (hs:s<S) (ha:a<V) (hb:b<V) (hab:a≠b) (hw:Ct f (λr=>f.t r=true∧(r=m∨f.bf m r)) a b) (hlt:x<f.x m∨x=f.x m∧s<m):gM S V (f.add s a b x false):=
 ok.add hn hs ha hb hab (.inr (hw.mono λr hr=>⟨⟨hr.1,by
  rcases hr.2 with rfl |h
  ·exact hlt
  ·unfold Fs.bf at h;omega⟩,rfl,rfl⟩))
end
section
variable {w:World} {b g n a c:Nat} {key:Nat→Int} {A:Nat→Nat→Prop} {ed:Int}
theorem LJ (h:qd w b g n key A ed) (ha:a<n) (hc:c<n) (hr:¬cZ A (a+1) (c+1)) (hn:n≤1000000):
  Calls Tryz.prog 96 #[.pointer (some ⟨b,0,none⟩),.int .i64 (a:Nat),.int .i64 (c:Nat)] w λe w'=>e=.returned (.tuple #[.int .i64 0,.bool false])∧qd w' b g n key A ed∧Off [g] w w':=by
 have HL:=jh (lJ h ha hc hn);have HR:=jh hr;clear h hr;go_in;go_wp2_with fail;apply mO HL;rintro e w3 ⟨⟨r,rfl,hr⟩,l3,o3⟩
 obtain rfl:r=false:=by
  cases r with
  |false=>rfl
  |true=>exact absurd (hr.1 rfl) HR.out
 have L3:=jh l3;have O3:=jh o3;clear l3 o3 hr;go_wp2;go_ret2;exact⟨rfl,L3.out,O3.out⟩
end
theorem MC (x y z:Int) (b:Bool) (w:World):(Instr.field 130 (.agg #[.int .i64 x,.int .i64 y,.int .i64 z,.bool b]) 3).run Tryz.prog w=.ok (.bool b) w:=by
 have u2:=Tryz.underlying3;have a2:=Tryz.isAgg3;have z2:=Tryz.sizeOf3;have u3:=Tryz.underlying2;have a3:=Tryz.isAgg2;have z3:=Tryz.sizeOf2;have a4:=Tryz.isAgg4;have z4:=Tryz.sizeOf4;simp only[Instr.field,Sem.run_bind,run_underlying Tryz.underlying130];go_simp;simp[asAgg]
section
variable {w:World} {F:ku} {S V:Nat} {f:Fs} {hl:Nat→Bool} {s a b:Nat} {x:Int}
theorem gD.conn {w':World} {key:Nat→Int} {ed:Int} (h:gD w F S V hl f) (kt:∀s,f.t s=true→key (s+1)=f.x s) (kv:∀v<V,key (S+v+1)=9223372036854775807) (l:qd w' F.lb F.lg (S+V) key (tQ S f) ed) (o:Off [F.lg] w w'):gD w' F S V hl f:=by
 obtain⟨b1,b2,b3,b4,b5⟩:=h.base;have n1:=h.n1;have n2:=h.n2;have kp:∀j<w.heap.size,j≠F.lg→w'.heap[j]?=w.heap[j]?:=λj h1 h2=>o.block j h1 (by simpa using h2);obtain⟨tr,hr⟩:=h.hr;obtain⟨L,q,hL⟩:=h.q;obtain⟨M,mp,m1,m2⟩:=h.mp;exact⟨⟨tr,hr.of_block (kp _ b1 n1.2.1)⟩,⟨key,ed,l,kt,kv⟩,⟨L,q.keep λj hj=>kp j (b5 j hj) (λe=>n2.2.2.1 (e▸hj)),hL⟩,⟨M,mp.keep (kp _ b4 (λe=>n1.2.2.2.2 e.symm)),m1,m2⟩,n1,n2,h.en,h.tl⟩
theorem gD.heap {w1:World} {hf':bY} {L':List En} {hl':Nat→Bool} (h:gD w F S V hl f) (q:oI w1 hf' S L') (hL:∀e,e∈L'↔hl' e.i=true∧e.k=f.x e.i) (o:yF F.hf hf' S w w1):
  gD w1 { F with hf:=hf' } S V hl' f∧Bo (F.bl S) (({ F with hf:=hf' }:ku).bl S) w w1:=by
 obtain⟨b1,b2,b3,b4,b5⟩:=h.base;have n1:=h.n1;have n2:=h.n2;have kp:∀j<w.heap.size,j∉F.hf.bl S→w1.heap[j]?=w.heap[j]?:=λj h1 h2=>o.off.block j h1 h2;have nw:∀j<w.heap.size,j∉F.hf.bl S→j∉hf'.bl S:=λj h1 h2 c=>(o.fQ j c).elim h2 λe=>om;obtain⟨tr,hr⟩:=h.hr;obtain⟨key,ed,lc,kt,kv⟩:=h.lc;obtain⟨M,mp,m1,m2⟩:=h.mp;refine⟨⟨⟨tr,?_⟩,⟨key,ed,lc.keep λj hj=>?_,kt,kv⟩,⟨L',q,hL⟩,⟨M,mp.keep (kp _ b4 n2.2.2.2),m1,m2⟩,n1,⟨nw _ b1 n2.1,nw _ b2 n2.2.1,nw _ b3 n2.2.2.1,nw _ b4 n2.2.2.2⟩,h.en,h.tl⟩,⟨?_,λj hj=>?_⟩⟩
 ·have:=hr.of_block (kp F.b b1 n2.1);rw[←o.sh] at this;exact this
 ·have:j=F.lb∨j=F.lg:=by simpa using hj
  rcases this with rfl |rfl
  ·exact kp _ b2 n2.2.1
  ·exact kp _ b3 n2.2.2.1
 ·exact o.off.mono λj hj=>.inl (by simp[ku.bl,hj])
 ·simp only[ku.bl,List.mem_cons] at hj⊢
  rcases hj with h1 |h1 |h1 |h1 |h1
  ·exact .inl (.inl h1)
  ·exact .inl (.inr (.inl h1))
  ·exact .inl (.inr (.inr (.inl h1)))
  ·exact .inl (.inr (.inr (.inr (.inl h1))))
  ·exact(o.fQ j h1).imp (λe=>.inr (.inr (.inr (.inr e)))) id
theorem gD.del {w1:World} {M:Int→Option Value} {m:Nat} (h:gD w F S V hl f) (ht:f.t m=false) (m1:∀s:Nat,M (s:Int)=if f.lv s=true then some (GZ f s) else none) (m2:∀x y,M x=some y→∃s:Nat,x=(s:Int)∧f.lv s=true)
  (mp:eO w1 3 .i64 F.mb (fG M (m:Int) none)) (bo:Bo [F.mb] [F.mb] w w1):gD w1 F S V hl { f with lv:=λr=>if r=m then false else f.lv r }:=by
 obtain⟨b1,b2,b3,b4,b5⟩:=h.base;have n1:=h.n1;have n2:=h.n2;have kp:∀j<w.heap.size,j≠F.mb→w1.heap[j]?=w.heap[j]?:=λj h1 h2=>bo.off.block j h1 (by simpa using h2);obtain⟨tr,hr⟩:=h.hr;obtain⟨key,ed,lc,kt,kv⟩:=h.lc;obtain⟨L,q,hL⟩:=h.q;refine⟨⟨tr,hr.of_block (kp _ b1 n1.2.2.1)⟩,⟨key,ed,(lc.keep λj hj=>?_),kt,kv⟩,⟨L,q.keep λj hj=>kp j (b5 j hj) (λe=>n2.2.2.2 (e▸hj)),hL⟩,⟨_,mp,λs'=>?_,λy z hy=>?_⟩,n1,n2,λs' hs=>?_,λs' hs=>?_⟩
 ·have:j=F.lb∨j=F.lg:=by simpa using hj
  rcases this with rfl |rfl
  ·exact kp _ b2 n1.2.2.2.1
  ·exact kp _ b3 n1.2.2.2.2
 ·unfold fG
  by_cases c:s'=m
  ·subst c;simp
  ·rw[if_neg om,m1 s'];simp only[if_neg c]
   rfl
 ·unfold fG at hy
  by_cases c:y=(m:Int)
  ·rw[if_pos c] at hy;cases hy
  ·rw[if_neg c] at hy;obtain⟨r,h1,h2⟩:=m2 y z hy;have hrs:r≠m:=λe=>c (by rw[h1,e]);exact⟨r,h1,by simp only[if_neg hrs];exact h2⟩
 ·have hs':(if s'=m then false else f.lv s')=true:=hs
  split at hs'
  ·exact nomatch hs'
  ·exact h.en s' hs'
 ·show(if s'=m then false else f.lv s')=true;have hs':f.t s'=true:=hs;rw[if_neg (λe=>by rw[e,ht] at hs';exact nomatch hs')];exact h.tl s' hs'
theorem EB (h:gD w F S V f.lv f) (ok:gM S V f) {m:Nat} (hm:f.lv m=true) (hf:∀s,f.lv s=true→s=m∨f.bf m s) (hS:S+V≤65535):
  Calls Tryz.prog 21 #[.pointer (some ⟨F.b,0,none⟩)] w λe w'=>(∃v,e=.returned v)∧∃F',gD w' F' S V (f.rem m).lv (f.rem m)∧gM S V (f.rem m)∧F'.b=F.b∧Bo (F.bl S) (F'.bl S) w w':=by
 have c3:=h.c3;have HV:=jh (qQ h);obtain⟨L,q,hL⟩:=h.q
 obtain⟨e0,T,rfl⟩:∃e0 T,L=e0::T:=by
  cases L with
  |nil=>have:=(hL ⟨m,f.x m⟩).2 ⟨hm,rfl⟩;cases this
  |cons e T=>exact⟨e,T,rfl⟩
 obtain⟨_,_,_,_,hp⟩:=id q
 have he0:e0.i=m:=by
  have e1:=(hL e0).1 sj
  rcases hf e0.i e1.1 with e |e
  ·exact e
  ·have e2:=(hL ⟨m,f.x m⟩).2 ⟨hm,rfl⟩;obtain⟨c,hc,hce⟩:=List.mem_iff_getElem.1 e2;have h1:=hp.min c hc;rw[oV hc,hce,show aB (e0::T) 0=e0 from rfl,En.nlt] at h1;unfold Fs.bf at e;have:=e1.2;simp only at h1;omega
 obtain⟨k0,hk0⟩:=nE e0.k;have HP:=zT q om;rw[he0,hk0] at HP;have HP:=jh HP;have H:=jh h;have HL:=jh hL;have OK:=jh ok;have HM:=jh (And.intro hm (And.intro hf hS));have hmS:=(h.en m hm).1;clear h q hL ok hm hf hp he0 hk0;go_in;go_wp2_with fail;apply mO HV;rintro e w1 ⟨rfl,rfl⟩;go_wp2_with fail;apply mO HP;rintro e w2 ⟨rfl,hf',L',q2,e2,l2,o2⟩;obtain⟨W3,hW3⟩:∃W3,w2.alloc (.cells #[.int .i64 m,.int .i64 k0] 110)=W3:=⟨_,rfl⟩
 have o3:Off [] w2 W3:=by rw[←hW3];exact(Off.refl _ _).alloc _
 have hr3:Row W3 w2.heap.size 2 (λi=>(#[Value.int .i64 m,.int .i64 k0]:Array Value).getD i undef):=by
  rw[←hW3];exact Row.lit _ _ _ (Nat.le_refl _) lC
 obtain⟨h2,b2⟩:=H.out.heap (hl':=(f.rem m).lv) q2 (λe=>by
  rw[e2,HL.out];show _↔(if e.i=m then false else f.lv e.i)=true∧_
  by_cases c:e.i=m
  ·rw[if_pos c];exact⟨λh=>absurd c h.2,λh=>nomatch h.1⟩
  ·rw[if_neg c];exact⟨λh=>h.1,λh=>⟨h,c⟩⟩) o2
 obtain⟨F2,hF2⟩:∃F2,({ F with hf:=hf' }:ku)=F2:=⟨_,rfl⟩
 have Cv:F2.b=F.b∧F2.mb=F.mb:=by rw[←hF2];exact⟨rfl,rfl⟩
 rw[hF2] at h2 b2;have h3:=h2.off o3;obtain⟨U0,Zp⟩:=nE W3.drew
 have o30:Off [] w2 U0:=by rw[←Zp];exact o3.drew
 have hu0:=h2.off o30
 have d4:W3.cell? ⟨F.b,4,none⟩=some (.map (some F.mb)):=by have:=h3.c4;rw[Cv.1,Cv.2] at this;exact this
 have i0:W3.cell? ⟨w2.heap.size,0,none⟩=some (.int .i64 m):=hr3.c 0
 have j0:U0.cell? ⟨w2.heap.size,0,none⟩=some (.int .i64 m):=by rw[←Zp];exact i0
 have lk:=hu0.look hmS hS;rw[if_pos HM.out.1,Cv.2,←Zp] at lk;unfold GZ at lk;obtain⟨A,hA⟩:=nE (f.a m);obtain⟨B,hB⟩:=nE (f.b m);obtain⟨X,hX⟩:=nE (f.x m);obtain⟨tm,htm⟩:=nE (f.t m);rw[hA,hB,hX,htm] at lk;have fd:=MC A B X tm;have yG:=jh Cv;have HW3:=jh hW3;have HU0:=jh Zp;have H3:=jh hu0;have B2:=jh (b2.trans (Bo.aX o30));have HTM:=jh htm;have HR3:=jh (hr3.of_block (w':=U0) (by rw[←Zp];rfl));have HZ:=jh (show w2.heap.size<U0.heap.size by rw[←Zp];show w2.heap.size<W3.heap.size;rw[←hW3];simp);have oJ:=jh h2.lt;clear hA hB hX htm Cv hW3 Zp h3 hu0 h2 b2 o3 o30 hF2 hr3 q2 e2 l2 o2 HP HL c3 HV;go_wp2_with fail;rw[HW3.out]
 go_still_tail 7,(by kernel_rfl)
 rw[show({ heap:=W3.heap,tape:=W3.tape,drawn:=W3.drawn+1,os:=W3.os,output:=W3.output }:World)=U0 from HU0.out];clear d4 i0 lk
 cases tm with
 |true=>
  go_wp2_with fail;have hlo:=vk H3.out HM.out.1 HTM.out hS;rw[yG.out.1] at hlo;refine hlo.mono ?_;clear hlo;rintro e U ⟨rfl,hu,bu⟩;have HU:=jh hu;have BU:=jh bu;clear hu bu j0;go_wp2_with fail;have eb:U.heap[F.b]?=W3.heap[F.b]?∨True:=.inr trivial
  have f4:U.cell? ⟨F.b,4,none⟩=some (.map (some F.mb)):=by have:=HU.out.c4;rw[yG.out.1,yG.out.2] at this;exact this
  have rU:=HR3.out.of_block (BU.out.off.block _ (oC HZ.out) (λc=>oC (oJ.out _ c)));have f0:U.cell? ⟨w2.heap.size,0,none⟩=some (.int .i64 m):=rU.c 0;obtain⟨M,mp,m1,m2⟩:=HU.out.mp;rw[yG.out.2] at mp;obtain⟨w6,hdel,DN,pG⟩:=(mp.keep (w':=U.drew) rfl).del (t:=126) Tryz.underlying3 Tryz.underlying126 (Yd (n:=m) om) 0;have FIN:gD w6 F2 S V (f.rem m).lv (f.rem m):=(HU.out.keep (w':=U.drew) λ_ _=>rfl).del Fs.wG m1 m2 (by rw[yG.out.2];exact DN) (by rw[yG.out.2];exact pG);have FB:Bo (F.bl S) (F2.bl S) w1 w6:=(B2.out.trans BU.out.drew).trans ⟨pG.off.mono λj hj=>.inl (by simp at hj;simp[ku.bl,hj,yG.out.2]),λ_ hj=>.inl hj⟩;have g0:w6.cell? ⟨w2.heap.size,0,none⟩=some (.int .i64 m):=(rU.of_block (pG.off.block _ (by have:=HZ.out;have:=BU.out.off.size;show w2.heap.size<U.heap.size;omega) (by have:=oJ.out F2.mb (by simp[ku.bl]);rw[yG.out.2] at this;simp;omega))).c 0;have aa6:=jh FIN;have FB':=jh FB;clear mp m1 m2 DN pG FIN FB rU eb HU BU
  go_still_tail 6,(by kernel_rfl)
  clear f4 f0;go_wp2;go_ret2;exact⟨⟨_,rfl⟩,F2,aa6.out,OK.out.rem HM.out.2.1,yG.out.1,FB'.out⟩
 |false=>
  have htr:f.tr m false=f:=by
   have:(λr=>if r=m then false else f.t r)=f.t:=funext λr=>by
    by_cases c:r=m
    ·rw[if_pos c,c,HTM.out]
    ·rw[if_neg c]
   unfold Fs.tr;rw[this]
  obtain⟨U,hU⟩:=nE U0;have HU:Hid (gD U F2 S V (f.rem m).lv (f.tr m false)):=jh (by rw[htr,←hU];exact H3.out);have BU:Hid (Bo (F2.bl S) (F2.bl S) U0 U):=jh (by rw[←hU];exact Bo.refl _ _);rw[hU];have HUU:=jh hU;clear hU htr j0;go_wp2_with fail;have eb:U.heap[F.b]?=W3.heap[F.b]?∨True:=.inr trivial
  have f4:U.cell? ⟨F.b,4,none⟩=some (.map (some F.mb)):=by have:=HU.out.c4;rw[yG.out.1,yG.out.2] at this;exact this
  have rU:=HR3.out.of_block (BU.out.off.block _ (oC HZ.out) (λc=>oC (oJ.out _ c)));have f0:U.cell? ⟨w2.heap.size,0,none⟩=some (.int .i64 m):=rU.c 0;obtain⟨M,mp,m1,m2⟩:=HU.out.mp;rw[yG.out.2] at mp;obtain⟨w6,hdel,DN,pG⟩:=(mp.keep (w':=U.drew) rfl).del (t:=126) Tryz.underlying3 Tryz.underlying126 (Yd (n:=m) om) 0;have FIN:gD w6 F2 S V (f.rem m).lv (f.rem m):=(HU.out.keep (w':=U.drew) λ_ _=>rfl).del Fs.wG m1 m2 (by rw[yG.out.2];exact DN) (by rw[yG.out.2];exact pG);have FB:Bo (F.bl S) (F2.bl S) w1 w6:=(B2.out.trans BU.out.drew).trans ⟨pG.off.mono λj hj=>.inl (by simp at hj;simp[ku.bl,hj,yG.out.2]),λ_ hj=>.inl hj⟩;have g0:w6.cell? ⟨w2.heap.size,0,none⟩=some (.int .i64 m):=(rU.of_block (pG.off.block _ (by have:=HZ.out;have:=BU.out.off.size;show w2.heap.size<U.heap.size;omega) (by have:=oJ.out F2.mb (by simp[ku.bl]);rw[yG.out.2] at this;simp;omega))).c 0;have aa6:=jh FIN;have FB':=jh FB;clear mp m1 m2 DN pG FIN FB rU eb HU BU
  go_still_tail 6,(by kernel_rfl)
  clear f4 f0;go_wp2;go_ret2;exact⟨⟨_,rfl⟩,F2,aa6.out,OK.out.rem HM.out.2.1,yG.out.1,FB'.out⟩
theorem Mi (h:gD w F S V hl f) (ha:a<V) (hS:S+V≤65535):
  Calls Tryz.prog 107 #[.pointer (some ⟨F.b,0,none⟩),.int .i64 (a:Nat)] w λe w'=>(∃z:Int,e=.returned (.int .i64 z))∧gD w' F S V hl f∧Bo (F.bl S) (F.bl S) w w':=by
 have HA:=jh (oh h ha om);have c1:=h.c1;have c2:=h.c2;obtain⟨PA,JH⟩:=nE (S+a);have wpa:(S:Int)+(a:Int)=(PA:Int):=om;have bp:(0:Int)≤PA∧(PA:Int)≤65535:=om;have H:=jh h;have HP:=jh JH;clear h JH;go_in;go_wp2_with fail;apply mO HA;rintro e w1 ⟨rfl,rfl⟩;go_wp2
 go_still_tail 11,(by kernel_rfl)
 clear c1 c2;go_wp2_with fail;obtain⟨key,ed,lc,kt,kv⟩:=H.out.lc;refine(LG (lc.keep (w':=w1.drew) λ_ _=>rfl) (a:=PA) (oC HP.out) om).mono ?_;rintro e w2 ⟨⟨z,rfl⟩,l2,o2⟩;have h2:=jh (H.out.conn kt kv l2 ((Off.refl [F.lg] w1).drew.trans o2 λj hj=>.inl hj));have b2:Hid (Bo (F.bl S) (F.bl S) w1 w2):=jh ⟨((Off.refl [F.lg] w1).drew.trans o2 λj hj=>.inl hj).mono λj hj=>.inl (by simp at hj;simp[ku.bl,hj]),λ_ hj=>.inl hj⟩;clear l2 o2 lc kt kv;go_wp2;go_ret;exact⟨⟨_,rfl⟩,h2.out,b2.out⟩
end
section
variable {w:World} {F:ku} {S V:Nat} {f:Fs} {s a b:Nat} {x:Int}
theorem gD.put (h:gD w F S V f.lv f) (hn:f.lv s=false) (hs:s<S) (ha:a<V) (hb:b<V) (hab:a≠b) (hx:x≤9223372036854775807) {L L':List En} {M:Int→Option Value} {hf':bY} {w1 w2:World}
  (hL:∀e,e∈L↔f.lv e.i=true∧e.k=f.x e.i) (m1:∀s:Nat,M (s:Int)=if f.lv s=true then some (GZ f s) else none) (m2:∀x y,M x=some y→∃s:Nat,x=(s:Int)∧f.lv s=true)
  (q:oI w1 hf' S L') (e3:∀e,e∈L'↔e∈L∨e=⟨s,x⟩) (o:yF F.hf hf' S w w1) (mp:eO w2 3 .i64 F.mb (fG M (s:Int) (some (.agg #[.int .i64 (a:Nat),.int .i64 (b:Nat),.int .i64 x,.bool false])))) (bo:Bo [F.mb] [F.mb] w1 w2):
  gD w2 { F with hf:=hf' } S V (f.add s a b x false).lv (f.add s a b x false)∧Bo (F.bl S) (({ F with hf:=hf' }:ku).bl S) w w2:=by
 obtain⟨b1,b2,b3,b4,b5⟩:=h.base;have n1:=h.n1;have n2:=h.n2;have hz:=o.off.size;have kp:∀j<w.heap.size,j∉F.hf.bl S→j≠F.mb→w2.heap[j]?=w.heap[j]?:=λj h1 h2 h3=>(bo.off.block j om (by simpa using h3)).trans (o.off.block j h1 h2);have nw:∀j<w.heap.size,j∉F.hf.bl S→j∉hf'.bl S:=λj h1 h2 c=>(o.fQ j c).elim h2 λe=>om;obtain⟨tr,hr⟩:=h.hr;obtain⟨key,ed,lc,kt,kv⟩:=h.lc
 have hts:f.t s=false:=by
  cases c:f.t s with
  |false=>rfl
  |true=>rw[h.tl s c] at hn;exact nomatch hn
 obtain⟨p1,p2,p3,p4,p5⟩:=Fs.add_eq (f:=f) (s:=s) (a:=a) (b:=b) (x:=x) (t:=false);have pn:∀r,r≠s→_:=λr hr=>Fs.gL (f:=f) (s:=s) (a:=a) (b:=b) (x:=x) (t:=false) hr;refine⟨⟨⟨tr,?_⟩,⟨key,ed,(lc.keep λj hj=>?_).iff (λv u=>(SY hts v u).symm) (λ_=>rfl),λs' h1=>?_,kv⟩,⟨L',q.keep λj hj=>?_,λe=>?_⟩,⟨_,mp,λs'=>?_,λy z hy=>?_⟩,n1,⟨nw _ b1 n2.1,nw _ b2 n2.2.1,nw _ b3 n2.2.2.1,nw _ b4 n2.2.2.2⟩,λs' h1=>?_,λs' h1=>?_⟩,⟨?_,λj hj=>?_⟩⟩
 ·have:=hr.of_block (kp F.b b1 n2.1 n1.2.2.1);rw[←o.sh] at this;exact this
 ·have:j=F.lb∨j=F.lg:=by simpa using hj
  rcases this with rfl |rfl
  ·exact kp _ b2 n2.2.1 n1.2.2.2.1
  ·exact kp _ b3 n2.2.2.1 n1.2.2.2.2
 ·by_cases c:s'=s
  ·rw[c,p5] at h1;exact nomatch h1
  ·obtain⟨_,_,_,q4,q5⟩:=pn s' c;rw[q4];rw[q5] at h1;exact kt s' h1
 ·exact bo.off.block j (q.lt j hj) (by
   have:=nw _ b4 n2.2.2.2
   simp;intro e;exact this (e▸hj))
 ·rw[e3,hL]
  by_cases c:e.i=s
  ·rw[c,p1,p4];constructor
   ·rintro(⟨h1,_⟩ |rfl)
    ·rw[hn] at h1;exact nomatch h1
    ·exact⟨rfl,rfl⟩
   ·rintro⟨_,h2⟩
    right;cases e;simp only at c h2;rw[c,h2]
  ·obtain⟨q1,_,_,q4,_⟩:=pn e.i c;rw[q1,q4];exact⟨λh=>h.elim id λe2=>absurd (by rw[e2]) c,.inl⟩
 ·unfold fG
  by_cases c:s'=s
  ·subst c;rw[if_pos rfl,p1,if_pos rfl];unfold GZ;rw[p2,p3,p4,p5]
  ·obtain⟨q1,q2,q3,q4,q5⟩:=pn s' c;rw[if_neg om,m1 s',q1];unfold GZ;rw[q2,q3,q4,q5]
 ·unfold fG at hy
  by_cases c:y=(s:Int)
  ·exact⟨s,c,p1⟩
  ·rw[if_neg c] at hy;obtain⟨r,h1,h2⟩:=m2 y z hy;have hrs:r≠s:=λe=>c (by rw[h1,e]);exact⟨r,h1,(pn r hrs).1.trans h2⟩
 ·by_cases c:s'=s
  ·subst c;rw[p2,p3,p4];exact⟨hs,ha,hb,hab,hx⟩
  ·obtain⟨q1,q2,q3,q4,_⟩:=pn s' c;rw[q2,q3,q4];rw[q1] at h1;exact h.en s' h1
 ·by_cases c:s'=s
  ·rw[c,p5] at h1;exact nomatch h1
  ·obtain⟨q1,_,_,_,q5⟩:=pn s' c;rw[q1];rw[q5] at h1;exact h.tl s' h1
 ·exact(o.off.mono λj hj=>.inl (by simp[ku.bl,hj])).trans bo.off (λj hj=>.inl (by simp at hj;simp[ku.bl,hj]))
 ·simp only[ku.bl,List.mem_cons] at hj⊢
  rcases hj with h1 |h1 |h1 |h1 |h1
  ·exact .inl (.inl h1)
  ·exact .inl (.inr (.inl h1))
  ·exact .inl (.inr (.inr (.inl h1)))
  ·exact .inl (.inr (.inr (.inr (.inl h1))))
  ·exact(o.fQ j h1).imp (λe=>.inr (.inr (.inr (.inr e)))) id
theorem RG (h:gD w F S V f.lv f) (ok:gM S V f) (hn:f.lv s=false) (hs:s<S) (ha:a<V) (hb:b<V) (hab:a≠b) (hx:x≤9223372036854775807) (hS:S+V≤65535):
  Calls Tryz.prog 50 #[.pointer (some ⟨F.b,0,none⟩),.int .i64 (s:Nat),.int .i64 (a:Nat),.int .i64 (b:Nat),.int .i64 x] w λe w'=>e=.returned (.int .i64 0)∧∃F' f',gD w' F' S V f'.lv f'∧gM S V f'∧F'.b=F.b∧(∃t,f'={ f.add s a b x false with t:=t })∧Bo (F.bl S) (F'.bl S) w w':=by
 have c1:=h.c1;have c4:=h.c4;have lk:=h.acD hs hS;rw[hn,if_neg (by decide)] at lk;obtain⟨W1,hW1⟩:∃W,w.alloc (.cells #[.int .i64 0,.int .i64 0,.int .i64 0,.bool false] 130)=W:=⟨_,rfl⟩
 have o1:Off [] w W1:=by rw[←hW1];exact(Off.refl _ _).alloc _
 have h1:=h.off o1;have d3:=h1.c3;rw[←hW1] at d3;have HV:=jh (qQ h);have HA:=jh (oh h ha om);have HB:=jh (oh h hb om);obtain⟨PA,JH⟩:=nE (S+a);obtain⟨PB,Rp⟩:=nE (S+b);have wpa:(S:Int)+(a:Int)=(PA:Int):=om;have wpb:(S:Int)+(b:Int)=(PB:Int):=om;have HP:=jh (And.intro JH Rp);have bp:(0:Int)≤PA∧(PA:Int)≤65535∧(0:Int)≤PB∧(PB:Int)≤65535:=om;clear JH Rp;have wwa:IntKind.i64.wrap (PA:Int)=PA:=(IntKind.wrap_i64 _).trans om;have wwb:IntKind.i64.wrap (PB:Int)=PB:=(IntKind.wrap_i64 _).trans om;have i1:decide ((s:Int)<0)=false:=dF om;have i2:decide ((s:Int)≥S)=false:=dF om;have i3:decide (S≤s)=false:=dF om;have i4:decide ((a:Int)=b)=false:=dF om
 have i5:((a:Int)==b)=false:=by simp;omega
 have i6:(a==b)=false:=by simp;omega
 have H:=jh h;have H1:=jh h1;have O1:=jh o1;have HW1:=jh hW1;have OK:=jh ok;have HN:=jh (And.intro hn (And.intro hs (And.intro ha (And.intro hb (And.intro hab (And.intro hx hS))))));clear h h1 o1 hW1 ok hn hab hx;go_in;go_wp2_with fail;apply mO HV;rintro e w' ⟨rfl,rfl⟩;go_wp2_with fail;apply mO HA;rintro e w' ⟨rfl,rfl⟩;go_wp2_with fail;apply mO HB;rintro e w' ⟨rfl,rfl⟩;go_wp2_with fail;rw[HW1.out];clear HV HA HB lk c1 c4 d3;obtain⟨L,hq,hL⟩:=H1.out.q;refine(zS hq hs (λe he c=>by have:=((hL e).1 he).1;rw[c,HN.out.1] at this;exact nomatch this) om).mono ?_;rintro e w2 ⟨rfl,hf',L',q2,e2,o2⟩;obtain⟨M,mp,m1,m2⟩:=H1.out.mp;have hbs:=H1.out.base;have TN:=mp.keep (o2.off.block F.mb hbs.2.2.2.1 H1.out.n2.2.2.2);obtain⟨hK1,hK2⟩:=H1.out.key hS M m2;obtain⟨w3,hup,mp3,Ai⟩:=TN.upd (t:=126) Tryz.underlying3 Tryz.underlying126 (Yd (n:=s) om) hK1 hK2 (.agg #[.int .i64 a,.int .i64 b,.int .i64 x,.bool false]);obtain⟨h3,bo⟩:=H1.out.put HN.out.1 hs ha hb HN.out.2.2.2.2.1 HN.out.2.2.2.2.2.1 hL m1 m2 q2 e2 o2 mp3 Ai;have c4:w2.cell? ⟨F.b,4,none⟩=some (.map (some F.mb)):=(World.cell?_of_block (o2.off.block F.b hbs.1 H1.out.n2.1)).trans H1.out.c4;obtain⟨F3,NM⟩:∃F3,({ F with hf:=hf' }:ku)=F3:=⟨_,rfl⟩
 have Cv:F3.b=F.b:=by rw[←NM]
 have hFl:F3.lb=F.lb:=by rw[←NM]
 rw[NM] at h3 bo
 have d2:w3.cell? ⟨F.b,2,none⟩=some (.pointer (some ⟨F3.lb,0,none⟩)):=by rw[←Cv];exact h3.c2
 have d1:w3.cell? ⟨F.b,1,none⟩=some (.int .i64 S):=by rw[←Cv];exact h3.c1
 have H3:=jh h3;have X9:=jh ((Bo.aX (A:=F.bl S) O1.out).trans bo);have tY:=jh Cv;clear hq hL q2 e2 o2 mp m1 m2 hbs TN hK1 hK2 mp3 Ai h3 bo NM Cv hFl;go_wp2_with fail;have HS:w3.drew.cell? ⟨F.b,2,none⟩=some (.pointer (some ⟨F3.lb,0,none⟩))∧w3.drew.cell? ⟨F.b,1,none⟩=some (.int .i64 S):=⟨d2,d1⟩;have vF:=jh HS;clear d2 d1 c4 hup;refine aj (λw'=>w'.cell? ⟨F.b,2,none⟩=some (.pointer (some ⟨F3.lb,0,none⟩))∧w'.cell? ⟨F.b,1,none⟩=some (.int .i64 S)) (by kernel_rfl) ?_;refine tC 0 ?_;refine tC 1 ?_;refine tC 2 ?_;refine tC 3 ?_;refine tC 4 ?_;refine tC 5 ?_;refine tC 6 ?_;refine tC 7 ?_;refine tC 8 ?_;refine tC 9 ?_;refine tC 10 ?_;refine tC 11 ?_;refine tC 12 ?_;refine tC 13 ?_;refine tC 14 ?_;refine tC 15 ?_;refine tC 16 ?_
 try simp only[sD]
 refine rC 17 λK hK=>?_;go_simp
 have hts:f.t s=false:=by
  cases c:f.t s with
  |false=>rfl
  |true=>have:=H.out.tl s c;rw[HN.out.1] at this;exact nomatch this
 obtain⟨g,hg⟩:=nE (f.add s a b x false);obtain⟨p1,p2,p3,p4,p5⟩:=Fs.add_eq (f:=f) (s:=s) (a:=a) (b:=b) (x:=x) (t:=false)
 have pn:∀r,r≠s→g.lv r=f.lv r∧g.a r=f.a r∧g.b r=f.b r∧g.x r=f.x r∧g.t r=f.t r:=λr hr=>by rw[←hg];exact Fs.gL (f:=f) (s:=s) (a:=a) (b:=b) (x:=x) (t:=false) hr
 have hag:∀v u,tQ S g v u↔tQ S f v u:=λv u=>by rw[←hg];exact SY hts v u
 have fin:∀(W:World) (f':Fs),gD W F3 S V f'.lv f'→gM S V f'→(∃t,f'={ g with t:=t })→Bo (F3.bl S) (F3.bl S) w3 W→∃F' f'',gD W F' S V f''.lv f''∧gM S V f''∧F'.b=F.b∧(∃t,f''={ f.add s a b x false with t:=t })∧Bo (F.bl S) (F'.bl S) w' W:=λW f' h1 h2 h3 h4=>⟨F3,f',h1,h2,tY.out,(by rw[hg];exact h3),X9.out.trans h4⟩;rw[hg] at H3 p1 p2 p3 p4 p5;have FIN:=jh fin;have PN:=jh pn;have HAG:=jh hag;have HG:=jh hg;have PS:=jh (And.intro p1 (And.intro p2 (And.intro p3 (And.intro p4 p5))));clear fin pn hag hg p1 p2 p3 p4 p5 X9;obtain⟨key,ed,lc,kt,kv⟩:=H3.out.lc;have Cv:=tY.out
 by_cases hcon:cZ (tQ S f) (S+a+1) (S+b+1)
 ·have lcf:=(lc.keep (w':=w3.drew) λ_ _=>rfl).iff HAG.out (λ_=>rfl);rw[HP.out.1,HP.out.2] at hcon;refine(QD lcf (a:=PA) (c:=PB) (oC HP.out) (oC HP.out) (oD HP.out HN.out.2.2.2.2.1) hcon om).mono ?_;rintro e w4 ⟨⟨m,Lw,rfl,Y7⟩,l4,o4⟩;dsimp only;rw[←HP.out.1,←HP.out.2] at Y7
  have htg:∀r,f.t r=true→g.t r=true∧g.x r=f.x r:=λr hr=>by
   have c:r≠s:=λe=>by rw[e,hts] at hr;exact nomatch hr
   obtain⟨_,_,_,q4,q5⟩:=PN.out r c;exact⟨q5.trans hr,q4⟩
  obtain⟨tm,ct1,ct2⟩:=Kq OK.out HN.out.2.2.2.2.1 kv (λr hr=>(kt r (htg r hr).1).trans (htg r hr).2) (λr hr=>(H.out.en r (H.out.tl r hr)).2.2.2.2) Y7;have YE:Off [F3.lg] w3 w4:=(Off.refl [F3.lg] w3).drew.trans o4 (λj hj=>.inl hj);have h4:=H3.out.conn kt kv (l4.iff (λv u=>(HAG.out v u).symm) (λ_=>rfl)) YE
  have NR:w4.cell? ⟨F.b,2,none⟩=some (.pointer (some ⟨F3.lb,0,none⟩))∧w4.cell? ⟨F.b,1,none⟩=some (.int .i64 S):=by rw[←Cv];exact⟨h4.c2,h4.c1⟩
  have H4:=jh h4;have B4:=jh (show Bo (F3.bl S) (F3.bl S) w3 w4 from⟨YE.mono λj hj=>.inl (by simp at hj;simp[ku.bl,hj]),λ_ hj=>.inl hj⟩)
  have hms:m≠s:=λe=>by rw[e,hts] at tm;exact nomatch tm
  have hmS:=(H.out.en m (H.out.tl m tm)).1;have TM:=jh (And.intro tm (And.intro ct1 (And.intro ct2 (And.intro hms hmS))));have HTS:=jh hts;clear HS hcon lcf lc kt kv l4 o4 Y7 htg tm ct1 ct2 YE h4 hms hts H3;refine hK.out _ _ NR (λHS=>?_);clear hK NR;refine tC 18 ?_;refine tC 19 ?_;refine tC 20 ?_;refine tC 21 ?_;refine tC 22 ?_
  try simp only[sD]
  refine dD ⟨rfl,?_⟩;clear HS;obtain⟨q1,q2,q3,q4,q5⟩:=PN.out m TM.out.2.2.2.1;have hgl:g.lv m=true:=q1.trans (H.out.tl m TM.out.1);have lk:=H4.out.look TM.out.2.2.2.2 hS;rw[if_pos hgl] at lk;unfold GZ at lk;obtain⟨A0,hA0⟩:=nE (g.a m);obtain⟨B0,hB0⟩:=nE (g.b m);obtain⟨X0,hX0⟩:=nE (g.x m);obtain⟨T0,hT0⟩:=nE (g.t m);rw[hA0,hB0,hX0,hT0] at lk;have hTt:T0=true:=hT0.symm.trans (q5.trans TM.out.1);have hXf:f.x m=X0:=q4.symm.trans hX0;obtain⟨W5,kZ⟩:∃W,w4.alloc (.cells #[.int .i64 A0,.int .i64 B0,.int .i64 X0,.bool T0] 130)=W:=⟨_,rfl⟩
  have o5:Off [] w4 W5:=by rw[←kZ];exact(Off.refl _ _).alloc _
  have Xu:Row W5 w4.heap.size 4 (λi=>(#[Value.int .i64 A0,.int .i64 B0,.int .i64 X0,.bool T0]:Array Value).getD i undef):=by
   rw[←kZ];exact Row.lit _ _ _ (Nat.le_refl _) lC
  have x2:W5.cell? ⟨w4.heap.size,2,none⟩=some (.int .i64 X0):=Xu.c 2;rw[←kZ] at x2
  have d4:w4.cell? ⟨F.b,4,none⟩=some (.map (some F3.mb)):=by rw[←Cv];exact H4.out.c4
  have H5:=jh (H4.out.off o5);have B5:=jh (B4.out.trans (Bo.aX o5));have XR:=jh kZ;have TT:=jh (And.intro hTt (And.intro hXf (And.intro hgl hT0)));clear hA0 hB0 hX0 hT0 hTt hXf kZ o5 Xu q1 q2 q3 q4 q5 hgl H4 B4
  have loose:∀(hlt:X0<x∨X0=x∧m<s) (e':gD W5 F3 S V g.lv g),Hid (Calls Tryz.prog 55 #[.pointer (some ⟨F.b,0,none⟩),.int .i64 m] W5 λe w6=>e=.returned (.tuple #[])∧Calls Tryz.prog 97 #[.pointer (some ⟨F.b,0,none⟩),.int .i64 s] w6 λe w7=>e=.returned (.tuple #[])∧∃F' f'',gD w7 F' S V f''.lv f''∧gM S V f''∧F'.b=F.b∧(∃t,f''={ f.add s a b x false with t:=t })∧Bo (F.bl S) (F'.bl S) w' w7):=λhlt e'=>jh (by
   have hlo:=vk e' (s:=m) TT.out.2.2.1 (TT.out.2.2.2.trans TT.out.1) hS;rw[Cv] at hlo;refine hlo.mono ?_;rintro e w6 ⟨rfl,h6,b6⟩;refine⟨rfl,?_⟩
   have hfa:=vo h6 (s:=s) PS.out.1 ((Fs.mX s (λe=>TM.out.2.2.2.1 e.symm)).trans PS.out.2.2.2.2) (λc=>by
    have h1:(g.tr m false).a s=a:=PS.out.2.1;have h2:(g.tr m false).b s=b:=PS.out.2.2.1;rw[h1,h2,←HG.out] at c
    exact MJ OK.out HN.out.1 TM.out.2.2.2.2 TM.out.2.2.1 c) hS
   rw[Cv] at hfa;refine hfa.mono ?_;rintro e w7 ⟨rfl,h7,b7⟩
   exact⟨rfl,FIN.out _ ((g.tr m false).tr s true) h7 (by rw[←HG.out,SQ];exact OK.out.swap HN.out.1 hs ha hb HN.out.2.2.2.2.1 TM.out.1 TM.out.2.1 TM.out.2.2.1 (by rw[TT.out.2.1];exact hlt)) ⟨_,rfl⟩ ((B5.out.trans b6).trans b7)⟩)
  have keep:(x<X0∨x=X0∧s<m)→∃F' f'',gD W5 F' S V f''.lv f''∧gM S V f''∧F'.b=F.b∧(∃t,f''={ f.add s a b x false with t:=t })∧Bo (F.bl S) (F'.bl S) w' W5:=λhlt=>
   FIN.out _ g H5.out (by rw[←HG.out];exact SV OK.out HN.out.1 hs ha hb HN.out.2.2.2.2.1 TM.out.2.1 (by rw[TT.out.2.1];exact hlt)) ⟨_,rfl⟩ B5.out
  have LO:=jh loose;have KP:=jh keep;have hms:=TM.out.2.2.2.1;clear loose keep Cv
  by_cases c1:x<X0
  ·have e1:decide (x<X0)=true:=dP c1;go_wp2_with fail;rw[XR.out];go_ret;exact⟨rfl,KP.out (.inl c1)⟩
  ·have e1:decide (x<X0)=false:=dF c1
   by_cases c2:X0=x
   ·have e2:(X0==x)=true:=by simp[c2]
    have e3:decide (X0=x)=true:=dP c2
    by_cases c3:s<m
    ·have e4:decide ((s:Int)<m)=true:=dP om;have e5:decide (s<m)=true:=dP c3;have NU:=jh c2;clear c2;go_wp2_with fail;rw[XR.out];go_ret;exact⟨rfl,KP.out (.inr ⟨NU.out.symm,c3⟩)⟩
    ·have e4:decide ((s:Int)<m)=false:=dF om;have e5:decide (s<m)=false:=dF c3;have L1:=LO.out (.inr ⟨c2,om⟩) H5.out;clear c2;go_wp2_with fail;rw[XR.out];apply mO L1;rintro e w6 ⟨rfl,h6⟩;have H6:=jh h6;clear h6;go_wp2_with fail;apply mO H6;rintro e w7 ⟨rfl,h7⟩;have H7:=jh h7;clear h7;go_wp2;go_ret;exact⟨rfl,H7.out⟩
   ·have e2:(X0==x)=false:=by simp[c2]
    have e3:decide (X0=x)=false:=dF c2;have L1:=LO.out (.inl om) H5.out;clear c2;go_wp2_with fail;rw[XR.out];apply mO L1;rintro e w6 ⟨rfl,h6⟩;have H6:=jh h6;clear h6;go_wp2_with fail;apply mO H6;rintro e w7 ⟨rfl,h7⟩;have H7:=jh h7;clear h7;go_wp2;go_ret;exact⟨rfl,H7.out⟩
 ·have lcf:=(lc.keep (w':=w3.drew) λ_ _=>rfl);rw[HP.out.1,HP.out.2] at hcon;refine(LJ lcf (a:=PA) (c:=PB) (oC HP.out) (oC HP.out) (λc=>hcon (c.mono λv u e=>(HAG.out v u).1 e)) om).mono ?_;rintro e w4 ⟨rfl,l4,o4⟩;dsimp only;have YE:Off [F3.lg] w3 w4:=(Off.refl [F3.lg] w3).drew.trans o4 (λj hj=>.inl hj);have h4:=H3.out.conn kt kv l4 YE
  have NR:w4.cell? ⟨F.b,2,none⟩=some (.pointer (some ⟨F3.lb,0,none⟩))∧w4.cell? ⟨F.b,1,none⟩=some (.int .i64 S):=by rw[←Cv];exact⟨h4.c2,h4.c1⟩
  have H4:=jh h4;have B4:=jh (show Bo (F3.bl S) (F3.bl S) w3 w4 from⟨YE.mono λj hj=>.inl (by simp at hj;simp[ku.bl,hj]),λ_ hj=>.inl hj⟩);have HC:=jh hcon;clear HS hcon lcf lc kt kv l4 o4 YE h4 hts H3;refine hK.out _ _ NR (λHS=>?_);clear hK NR;refine tC 18 ?_;refine tC 19 ?_;refine tC 20 ?_;refine tC 21 ?_;refine tC 22 ?_
  try simp only[sD]
  refine dD ⟨rfl,?_⟩;clear HS;go_wp2_with fail;have hfa:=vo H4.out (s:=s) PS.out.1 PS.out.2.2.2.2 (λc=>HC.out (by rw[←HP.out.1,←HP.out.2];rw[PS.out.2.1,PS.out.2.2.1] at c;exact c.mono λv u e=>(HAG.out v u).1 e)) hS;rw[Cv] at hfa;refine hfa.mono ?_;clear hfa;rintro e w5 ⟨rfl,h5,b5⟩;have H5:=jh h5;have B5:=jh b5;clear h5 b5;go_wp2;go_ret;exact⟨rfl,FIN.out _ (g.tr s true) H5.out (by rw[←HG.out,aao];exact OK.out.add HN.out.1 hs ha hb HN.out.2.2.2.2.1 (.inl rfl)) ⟨_,rfl⟩ (B4.out.trans B5.out)⟩
end
def fs0:Fs:=⟨λ_=>false,λ_=>0,λ_=>0,λ_=>0,λ_=>false⟩
section
variable {S V:Nat}
theorem RA (w:World) (hV:V≤4096) (hE:S≤16384):
  Calls Tryz.prog 39 #[.int .i64 (V:Nat),.int .i64 (S:Nat)] w λe w'=>∃F,e=.returned (.tuple #[.pointer (some ⟨F.b,0,none⟩),.int .i64 0])∧gD w' F S V fs0.lv fs0∧gM S V fs0∧Bo [] (F.bl S) w w':=by
 have hS:S+V≤65535:=om;obtain⟨P,hP⟩:=nE (S+V);have wp:(S:Int)+(V:Int)=(P:Int):=om;have bp:(0:Int)≤P∧(P:Int)≤65535:=om;have d1:decide ((V:Int)<0)=false:=dF om;have d3:decide ((S:Int)<0)=false:=dF om;have d2:decide ((4096:Int)<V)=false:=dF om;have d4:decide ((16384:Int)<S)=false:=dF om;have HP:=jh hP
 have hmm:∀w:World,(Instr.makeMap 126 none).run Tryz.prog w=.ok (.map (some w.heap.size)) (w.alloc (.map #[] 0)):=λw=>by kernel_rfl
 have HN:=jh (QC (n:=P) w om);go_in;go_wp2_with fail;apply mO HN;rintro e w1 ⟨lb,lg,rfl,l1,o1,g1,g2⟩;have L1:=jh l1;have O1:=jh o1;have G1:=jh (And.intro g1 g2);clear l1 o1 g1 g2 HN d1 d2 d3 d4 hP;go_wp2
 go_loopg [35] V (λM iv wr=>∃i key,M+i=V∧iv=.int .i64 i∧Hid (qd wr lb lg P key (λ_ _=>False) 0)∧Hid (Off [lg] w1 wr)∧Hid (∀v<i,key (S+v+1)=9223372036854775807))
 case atStart=>exact⟨0,_,rfl,rfl,L1,jh (Off.refl _ _),jh λv hv=>absurd hv (Nat.not_lt_zero _)⟩
 case round=>
  clear L1;obtain⟨i,key,hM,rfl,LI,OI,KI⟩:=hrel
  by_cases c0:i<V
  ·have d0:decide ((i:Int)<V)=true:=dP om;obtain⟨Q,hQ⟩:=nE (S+i);have wq:(S:Int)+(i:Int)=(Q:Int):=om;have bq:(0:Int)≤Q∧(Q:Int)≤65535:=om;have bi:(0:Int)≤i∧(i:Int)<V:=om;obtain⟨i1,hi1⟩:=nE (i+1);have wi:(i:Int)+1=(i1:Int):=om;have bi1:(0:Int)≤i1∧(i1:Int)≤65535:=om;have HQ:=jh hQ;have HI:=jh hi1;clear hQ hi1;go_wp2_with fail;refine(DW LI.out (a:=Q) (oD HQ.out HP.out) om 9223372036854775807).mono ?_;rintro e w3 ⟨rfl,l3,o3⟩;have L3:=jh l3;have O3:=jh o3;clear l3 o3 LI;go_wp2
   go_roundg (V-i1)
   case measure=>have:=HI.out;omega
   case rel=>exact⟨i1,_,oC HI.out,rfl,L3,jh (OI.out.trans O3.out λj hj=>.inl hj),jh λv hv=>by
     by_cases c:v=i
     ·rw[if_pos (oC HQ.out)]
     ·rw[if_neg (oC HQ.out)];exact KI.out v (oC HI.out)⟩
  ·have d0:decide ((i:Int)<V)=false:=dF om;have hi:i=V:=om;have HI:=jh hi;clear hi;go_wp2_with fail;refine(Em (S:=S) wr om).mono ?_;rintro e w3 ⟨hf,rfl,q3,o3⟩;have Q3:=jh q3;have O3:=jh o3;clear q3 o3;go_wp2;go_ret2;have hb:=Row.lit (n:=6) (f:=λi=>(#[Value.int .i64 V,.int .i64 S,.pointer (some ⟨lb,0,none⟩),.pointer (some ⟨hf.h,0,none⟩),.map (some w3.heap.size),.int .i64 0]:Array Value).getD i undef) (w3.alloc (.map #[] 0)) #[.int .i64 V,.int .i64 S,.pointer (some ⟨lb,0,none⟩),.pointer (some ⟨hf.h,0,none⟩),.map (some w3.heap.size),.int .i64 0] 128 (Nat.le_refl _) lC;rw[World.size_alloc] at hb;obtain⟨W,hW⟩:∃W,(w3.alloc (.map #[] 0)).alloc (.cells #[.int .i64 V,.int .i64 S,.pointer (some ⟨lb,0,none⟩),.pointer (some ⟨hf.h,0,none⟩),.map (some w3.heap.size),.int .i64 0] 128)=W:=⟨_,rfl⟩;rw[hW];rw[hW] at hb
   have oW:Off [] w3 W:=by rw[←hW];exact((Off.refl _ _).alloc _).alloc _
   have zW:W.heap.size=w3.heap.size+2:=by rw[←hW];simp
   have mW:eO W 3 .i64 w3.heap.size (λ_=>none):=by
    rw[←hW];exact(eO.made w3 3 .i64).keep (Below.heap_alloc _ _ _ sj)
   have z1:=O1.out.size;have z2:=OI.out.size;have z3:=O3.out.off.size;have l1:=LI.out.lt lb sj;have l2:=LI.out.lt lg sj
   have L4:=LI.out.keep (w':=W) λj hj=>by
    have:j<wr.heap.size:=LI.out.lt j hj;exact(oW.block j om sj).trans (O3.out.off.block j this sj)
   have qlt:=Q3.out.lt;have qge:∀j∈hf.bl S,wr.heap.size≤j:=λj hj=>(O3.out.fQ j hj).elim (λh=>by cases h) id;obtain⟨F,hF⟩:=nE ((⟨w3.heap.size+1,lb,lg,w3.heap.size,hf⟩:ku):ku);have hFF:F=⟨w3.heap.size+1,lb,lg,w3.heap.size,hf⟩:=hF.symm;refine⟨⟨w3.heap.size+1,lb,lg,w3.heap.size,hf⟩,rfl,⟨⟨0,hb⟩,⟨key,0,?_,λs hs=>(nomatch hs),λv hv=>KI.out v (by rw[HI.out];exact hv)⟩,⟨[],Q3.out.keep λj hj=>oW.block j (qlt j hj) sj,λe=>⟨(λh=>nomatch h),λh=>nomatch h.1⟩⟩,⟨_,mW,λs=>rfl,λx y h=>nomatch h⟩,⟨by show w3.heap.size+1≠lb;omega,by show w3.heap.size+1≠lg;omega,by show w3.heap.size+1≠w3.heap.size;omega,by show lb≠w3.heap.size;omega,by show lg≠w3.heap.size;omega⟩,⟨λc=>?_,λc=>?_,λc=>?_,λc=>?_⟩,λs hs=>(nomatch hs),λs hs=>(nomatch hs)⟩,⟨λs hs=>(nomatch hs),λs hs=>(nomatch hs),λs hs=>(nomatch hs)⟩,⟨?_,λj hj=>?_⟩⟩
   ·rw[HP.out];exact L4.iff (λv u=>⟨False.elim,λ⟨s,hs,_⟩=>nomatch hs⟩) (λ_=>rfl)
   ·have:=qlt _ c;change w3.heap.size+1<w3.heap.size at this;omega
   ·have:=qge _ c;change wr.heap.size≤lb at this;omega
   ·have:=qge _ c;change wr.heap.size≤lg at this;omega
   ·have:=qlt _ c;change w3.heap.size<w3.heap.size at this;omega
   ·exact((O1.out.trans OI.out (S':=[lg]) λj hj=>.inr (by simp at hj;have:=G1.out;omega)).trans O3.out.off λj hj=>by cases hj).trans oW λj hj=>by cases hj
   ·right
    have g:=G1.out;simp only[ku.bl,List.mem_cons] at hj
    rcases hj with h |h |h |h |h
    ·rw[h];omega
    ·rw[h];exact g.1
    ·rw[h];exact g.2
    ·rw[h];omega
    ·have:=qge j h;omega
end
end Go.Proofs.YtpaeogglppampaaGreatDoor
