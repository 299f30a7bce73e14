/- Lemmas of the proof. Conditions: as each one states. -/
import Derived.Test.YtpaeogglppampaaGreatDoorQc
set_option maxRecDepth 100000
set_option maxHeartbeats 16000000
namespace Go.Proofs.YtpaeogglppampaaGreatDoor
open Go.RowKit
inductive Td (n:Nat):Sg→Nat→Sg→Prop
 |done {σ:Sg} {i:Nat} (h:side σ i=none) (hu:(σ i).up≤n):Td n σ i σ
 |one {σ τ:Sg} {i:Nat} {s:Bool} (h:side σ i=some s) (k:side σ (σ i).up=none) (r:ni n σ i s) (g:Td n (fB σ i s) i τ):Td n σ i τ
 |zig {σ τ:Sg} {i:Nat} {s:Bool} (h:side σ i=some s) (k:side σ (σ i).up=some s) (r:ni n σ (σ i).up s) (q:ni n (fB σ (σ i).up s) i s) (g:Td n (fB (fB σ (σ i).up s) i s) i τ):Td n σ i τ
 |zag {σ τ:Sg} {i:Nat} {s:Bool} (h:side σ i=some s) (k:side σ (σ i).up=some (!s)) (r:ni n σ i s) (q:ni n (fB σ i s) i (!s)) (g:Td n (fB (fB σ i s) i (!s)) i τ):Td n σ i τ
theorem wS (s:Bool) (x:Tr) (v:Nat) (y:Tr):mkT s x v y=mkT (!s) y v x:=by cases s<;>rfl
theorem oQ (s:Bool) (x:Tr) (v:Nat) (y:Tr):(mkT s x v y).ino=if s then y.ino++v::x.ino else x.ino++v::y.ino:=by cases s<;>rfl
theorem rJ (s:Bool) (A B S:Tr) (i p:Nat):(mkT s A i (mkT s B p S)).ino=(mkT s (mkT s A i B) p S).ino:=by
 rw[oQ,oQ,oQ,oQ];cases s<;>simp
theorem nQ:∀(c:List Fr) {t t':Tr},t.ino=t'.ino→(plug c t).ino=(plug c t').ino
 |[],_,_,h=>h
 |⟨sd,v,s⟩::c,t,t',h=>nQ c (by rw[oQ,oQ,h])
theorem jI {t t':Tr} (h:t.ino=t'.ino):t.ns.Perm t'.ns:=t.jX.symm.trans (h▸t'.jX)
theorem KL (n:Nat):∀(k:Nat) (c:List Fr),c.length≤k→∀(σ:Sg) (A:Tr) (sd:Bool) (i:Nat) (B:Tr) (u:Nat),
  Lay σ (plug c (mkT sd A i B)) u→(plug c (mkT sd A i B)).ns.Nodup→(∀x∈(plug c (mkT sd A i B)).ns,x≤n)→y9 σ u (plug c (mkT sd A i B)).ns→u≤n→
  ∃τ a b,Td n σ i τ∧Lay τ (.nd false a i b) u∧(Tr.nd false a i b).ino=(plug c (mkT sd A i B)).ino∧(∀x,x∉(plug c (mkT sd A i B)).ns→τ x=σ x)∧(∀x,(τ x).key=(σ x).key):=by
 intro k
 induction k with
 |zero=>
  intro c hc σ A sd i B u L hn hle ht hu;obtain rfl:c=[]:=List.length_eq_zero_iff.1 (Nat.le_zero.1 hc);have hs:=rF ht (vY.2 (.inl rfl)) (mD.1 L).2.2.2.2.1;cases sd
  ·exact⟨σ,A,B,.done hs (by rw[(mD.1 L).2.2.2.2.1];exact hu),L,rfl,λ_ _=>rfl,λ_=>rfl⟩
  ·exact⟨σ,B,A,.done hs (by rw[(mD.1 L).2.2.2.2.1];exact hu),L,rfl,λ_ _=>rfl,λ_=>rfl⟩
 |succ k ih=>
  intro c hc σ A sd i B u L hn hle ht hu
  match c,hc,L,hn,hle,ht with
  |[],hc,L,hn,hle,ht=>
   have hs:=rF ht (vY.2 (.inl rfl)) (mD.1 L).2.2.2.2.1;cases sd
   ·exact⟨σ,A,B,.done hs (by rw[(mD.1 L).2.2.2.2.1];exact hu),L,rfl,λ_ _=>rfl,λ_=>rfl⟩
   ·exact⟨σ,B,A,.done hs (by rw[(mD.1 L).2.2.2.2.1];exact hu),L,rfl,λ_ _=>rfl,λ_=>rfl⟩
  |[⟨s,p,S⟩],hc,L,hn,hle,ht=>
   obtain⟨A',B',hAB⟩:∃A' B',mkT sd A i B=mkT s A' i B':=by
    by_cases e:sd=s
    ·subst e;exact⟨A,B,rfl⟩
    ·exact⟨B,A,by rw[wS sd];congr;cases sd<;>cases s<;>simp_all⟩
   rw[hAB] at L hn hle ht⊢;obtain⟨r1,r2,r3,_,r5,r6⟩:=lY L hn hle ht hu;have kU:(plug [] (mkT s A' i (mkT s B' p S))).ino=(plug [⟨s,p,S⟩] (mkT s A' i B')).ino:=rJ s A' B' S i p;have hp:=jI kU;obtain⟨τ,a,b,q1,q2,q3,q4,q5⟩:=ih [] (Nat.zero_le _) _ A' s i (mkT s B' p S) u r5 (hp.nodup_iff.2 hn) (λx hx=>hle x (hp.mem_iff.1 hx)) (ht.keep r6 λx hx=>hp.mem_iff.1 hx) hu;exact⟨τ,a,b,.one r1.sd (by rw[r2];exact r3 rfl) r1 q1,q2,q3.trans kU,λx hx=>(q4 x λc=>hx (hp.mem_iff.1 c)).trans (r6 x hx),λx=>(q5 x).trans (jO _ _ _ _)⟩
  |⟨s,p,S⟩::⟨s2,g,S2⟩::c,hc,L,hn,hle,ht=>
   obtain⟨A',B',hAB⟩:∃A' B',mkT sd A i B=mkT s A' i B':=by
    by_cases e:sd=s
    ·subst e;exact⟨A,B,rfl⟩
    ·exact⟨B,A,by rw[wS sd];congr;cases sd<;>cases s<;>simp_all⟩
   rw[hAB] at L hn hle ht⊢
   have hlen:c.length+1≤k:=by simp only[List.length_cons] at hc;omega
   by_cases e:s=s2
   ·subst e;have L':Lay σ (plug (⟨s,g,S2⟩::c) (mkT s (mkT s A' i B') p S)) u:=L;obtain⟨r1,r2,r3,r4,r5,r6⟩:=lY L' hn hle ht hu;obtain⟨_,rp,_,rs,_,_⟩:=lY L hn hle ht hu;have kU:(plug (⟨s,p,mkT s S g S2⟩::c) (mkT s A' i B')).ino=(plug (⟨s,p,S⟩::⟨s,g,S2⟩::c) (mkT s A' i B')).ino:=nQ c (rJ s (mkT s A' i B') S S2 p g);have hp:=jI kU;have r5':Lay (fB σ p s) (plug (⟨s,p,mkT s S g S2⟩::c) (mkT s A' i B')) u:=r5;have hn2:=hp.nodup_iff.2 hn;have hle2:∀x∈(plug (⟨s,p,mkT s S g S2⟩::c) (mkT s A' i B')).ns,x≤n:=λx hx=>hle x (hp.mem_iff.1 hx);have ht2:y9 (fB σ p s) u (plug (⟨s,p,mkT s S g S2⟩::c) (mkT s A' i B')).ns:=ht.keep r6 λx hx=>hp.mem_iff.1 hx;obtain⟨w1,w2,w3,w4,w5,w6⟩:=lY r5' hn2 hle2 ht2 hu;have Eo:(plug c (mkT s A' i (mkT s B' p (mkT s S g S2)))).ino=(plug (⟨s,p,mkT s S g S2⟩::c) (mkT s A' i B')).ino:=nQ c (rJ s A' B' _ i p);have hp2:=jI Eo;obtain⟨τ,a,b,q1,q2,q3,q4,q5⟩:=ih c om _ A' s i _ u w5 (hp2.nodup_iff.2 hn2) (λx hx=>hle2 x (hp2.mem_iff.1 hx)) (ht2.keep w6 λx hx=>hp2.mem_iff.1 hx) hu;have hsi:side σ i=some s:=(lY L hn hle ht hu).1.sd;refine⟨τ,a,b,.zig hsi (by rw[rp];exact r1.sd) (by rw[rp];exact r1) (by rw[rp];exact w1) (by rw[rp];exact q1),q2,(q3.trans Eo).trans kU,λx hx=>?_,λx=>((q5 x).trans (jO _ _ _ _)).trans (jO _ _ _ _)⟩;have hx1:x∉(plug (⟨s,p,mkT s S g S2⟩::c) (mkT s A' i B')).ns:=λd=>hx (hp.mem_iff.1 d);exact((q4 x λd=>hx1 (hp2.mem_iff.1 d)).trans (w6 x hx1)).trans (r6 x hx)
   ·obtain rfl:s2=!s:=by cases s<;>cases s2<;>simp_all
    obtain⟨r1,r2,r3,r4,r5,r6⟩:=lY L hn hle ht hu;have kU:(plug (⟨!s,g,S2⟩::c) (mkT s A' i (mkT s B' p S))).ino=(plug (⟨s,p,S⟩::⟨!s,g,S2⟩::c) (mkT s A' i B')).ino:=nQ (⟨!s,g,S2⟩::c) (rJ s A' B' S i p);have hp:=jI kU;have hn2:=hp.nodup_iff.2 hn;have hle2:∀x∈(plug (⟨!s,g,S2⟩::c) (mkT s A' i (mkT s B' p S))).ns,x≤n:=λx hx=>hle x (hp.mem_iff.1 hx);have ht2:y9 (fB σ i s) u (plug (⟨!s,g,S2⟩::c) (mkT s A' i (mkT s B' p S))).ns:=ht.keep r6 λx hx=>hp.mem_iff.1 hx;rw[wS s A' i] at r5 hn2 hle2 ht2 hp kU;obtain⟨w1,w2,w3,w4,w5,w6⟩:=lY r5 hn2 hle2 ht2 hu;have Eo:(plug c (mkT (!s) (mkT s B' p S) i (mkT (!s) A' g S2))).ino=(plug (⟨!s,g,S2⟩::c) (mkT (!s) (mkT s B' p S) i A')).ino:=nQ c (rJ (!s) (mkT s B' p S) A' S2 i g);have hp2:=jI Eo;obtain⟨τ,a,b,q1,q2,q3,q4,q5⟩:=ih c om _ _ (!s) i _ u w5 (hp2.nodup_iff.2 hn2) (λx hx=>hle2 x (hp2.mem_iff.1 hx)) (ht2.keep w6 λx hx=>hp2.mem_iff.1 hx) hu;refine⟨τ,a,b,.zag r1.sd (by rw[r2];exact r4 _ _ rfl) r1 w1 q1,q2,(q3.trans Eo).trans kU,λx hx=>?_,λx=>((q5 x).trans (jO _ _ _ _)).trans (jO _ _ _ _)⟩;have hx1:x∉(plug (⟨!s,g,S2⟩::c) (mkT (!s) (mkT s B' p S) i A')).ns:=λd=>hx (hp.mem_iff.1 d);exact((q4 x λd=>hx1 (hp2.mem_iff.1 d)).trans (w6 x hx1)).trans (r6 x hx)
theorem Og (i:Nat) (t:Tr):i∈t.ns→∀bb,∃c a b,qB bb t i=plug c (mkT false a i b):=by
 induction t with
 |nil=>intro h;simp[Tr.ns] at h
 |nd f l v r hl hr=>
  intro h bb;unfold qB
  by_cases h1:v=i
  ·rw[if_pos h1];subst h1
   split
   ·exact⟨[],_,_,rfl⟩
   ·exact⟨[],_,_,rfl⟩
  ·rw[if_neg h1]
   by_cases h2:i∈l.ns
   ·rw[if_pos h2]
    split
    ·obtain⟨c,a,b,e⟩:=hl h2 true;exact⟨c++[⟨true,v,r.zY⟩],a,b,by rw[oO,e];rfl⟩
    ·obtain⟨c,a,b,e⟩:=hl h2 false;exact⟨c++[⟨false,v,r⟩],a,b,by rw[oO,e];rfl⟩
   ·rw[if_neg h2]
    have h3:i∈r.ns:=by
     rcases Tr.aY.1 h with e |e |e
     ·exact absurd e h2
     ·exact absurd e.symm h1
     ·exact e
    split
    ·obtain⟨c,a,b,e⟩:=hr h3 true;exact⟨c++[⟨false,v,l.zY⟩],a,b,by rw[oO,e];rfl⟩
    ·obtain⟨c,a,b,e⟩:=hr h3 false;exact⟨c++[⟨true,v,l⟩],a,b,by rw[oO,e];rfl⟩
inductive W9 (σ:Sg):Nat→List Nat→Prop
 |top {i:Nat} (h:side σ i=none):W9 σ i [i]
 |up {i:Nat} {s:Bool} {L:List Nat} (h:side σ i=some s) (k:W9 σ (σ i).up L):W9 σ i (i::L)
theorem Wt {σ:Sg} {i:Nat} (t:Tr):∀{p:Nat} {K:List Nat},Lay σ t p→t.ns.Nodup→i∈t.ns→(K=[]∧side σ t.rt=none∨∃s,side σ t.rt=some s∧W9 σ p K)→W9 σ i ((yZ t i).reverse++K):=by
 induction t with
 |nil=>intro p K _ _ h;simp[Tr.ns] at h
 |nd f l v r hl hr=>
  intro p K h hn hi hK;obtain⟨h1,h2,h3,h4,h5,h6,h7,h8,h9⟩:=h;rw[Tr.ns,List.nodup_append] at hn;obtain⟨n1,n2,n3⟩:=hn;have n4:=List.nodup_cons.1 n2
  have hv:W9 σ v (v::K):=by
   rcases hK with⟨rfl,hs⟩ |⟨s,hs,hc⟩
   ·exact .top hs
   ·exact .up hs (by rw[h5];exact hc)
  unfold yZ
  by_cases e1:v=i
  ·rw[if_pos e1];subst e1;exact hv
  ·rw[if_neg e1]
   by_cases e2:i∈l.ns
   ·rw[if_pos e2,List.reverse_cons,List.append_assoc];have hne:=Tr.ne_nil e2;obtain⟨u1,_,_,u4⟩:=h8.root hne
    exact hl h8 n1 e2 (.inr ⟨false,vR (by rw[u1];exact h1) (by rw[u1];exact h2) (by
     rw[u1];show(σ v).k1≠l.rt;rw[h3];intro e
     by_cases c:r=.nil
     ·subst c;exact u4 e.symm
     ·exact n3 _ (Tr.dH hne) _ (List.mem_cons_of_mem _ (Tr.dH c)) e.symm),hv⟩)
   ·rw[if_neg e2,List.reverse_cons,List.append_assoc]
    have e3:i∈r.ns:=by
     rcases Tr.aY.1 hi with e |e |e
     ·exact absurd e e2
     ·exact absurd e.symm e1
     ·exact e
    have hne:=Tr.ne_nil e3;obtain⟨u1,_,_,u4⟩:=h9.root hne
    exact hr h9 n4.2 e3 (.inr ⟨true,vR (by rw[u1];exact h1) (by rw[u1];exact h3) (by
     rw[u1];show(σ v).k0≠r.rt;rw[h2];intro e
     by_cases c:l=.nil
     ·subst c;exact u4 e.symm
     ·exact n3 _ (Tr.dH c) _ (List.mem_cons_of_mem _ (Tr.dH hne)) e),hv⟩)
theorem WC {i:Nat} (t:Tr):∀x∈yZ t i,x∈t.ns:=by
 induction t with
 |nil=>intro x hx;simp[yZ] at hx
 |nd f l v r hl hr=>
  intro x hx;unfold yZ at hx;rw[Tr.aY]
  split at hx
  ·exact .inr (.inl (by simpa using hx))
  ·split at hx
   ·rcases List.mem_cons.1 hx with e |e
    ·exact .inr (.inl e)
    ·exact .inl (hl x e)
   ·rcases List.mem_cons.1 hx with e |e
    ·exact .inr (.inl e)
    ·exact .inr (.inr (hr x e))
theorem WE {i:Nat} (t:Tr):(yZ t i).length≤t.ns.length:=by
 induction t with
 |nil=>exact Nat.le_refl _
 |nd f l v r hl hr=>
  unfold yZ;rw[Tr.ns,List.length_append,List.length_cons]
  split
  ·simp only[List.length_cons,List.length_nil];omega
  ·split<;>rw[List.length_cons]<;>omega
theorem LV {σ:Sg} {t:Tr}:∀{p:Nat},Lay σ t p→∀x∈t.ns,(σ x).up=p∨(σ x).up∈t.ns:=by
 induction t with
 |nil=>intro p _ x hx;simp[Tr.ns] at hx
 |nd f l v r hl hr=>
  intro p h x hx;obtain⟨h1,h2,h3,h4,h5,h6,h7,h8,h9⟩:=h
  rcases Tr.aY.1 hx with hx |rfl |hx
  ·rcases hl h8 x hx with e |e
   ·exact .inr (by rw[e];simp[Tr.ns])
   ·exact .inr (Tr.aY.2 (.inl e))
  ·exact .inl h5
  ·rcases hr h9 x hx with e |e
   ·exact .inr (by rw[e];simp[Tr.ns])
   ·exact .inr (Tr.aY.2 (.inr (.inr e)))
def Spl (n:Nat) (σ:Sg) (i:Nat) (τ:Sg):Prop:=∃L ρ,W9 σ i L∧L.length≤n∧(∀x∈L,x≤n∧(σ x).up≤n)∧tL n σ L.reverse ρ∧Td n ρ i τ
theorem OX {n:Nat} {σ:Sg} {t:Tr} {u i:Nat} (L:Lay σ t u) (hn:t.ns.Nodup) (hle:∀x∈t.ns,x≤n) (ht:y9 σ u t.ns) (hu:u≤n) (hi:i∈t.ns):
  ∃τ a b,Spl n σ i τ∧Lay τ (.nd false a i b) u∧(Tr.nd false a i b).ino=t.ino∧(∀x,x∉t.ns→τ x=σ x)∧(∀x,(τ x).key=(σ x).key):=by
 obtain⟨ρ,p1,p2,p3,p4⟩:=Vs (n:=n) t false σ u L hn hle hi;obtain⟨c,a,b,e⟩:=Og i t hi false;have hp:=Aw t i false;have kU:=Uo t i false;rw[e] at p2 hp kU;obtain⟨τ,a',b',q1,q2,q3,q4,q5⟩:=KL n c.length c (Nat.le_refl _) ρ a false i b u p2 (hp.nodup_iff.2 hn) (λx hx=>hle x (hp.mem_iff.1 hx)) (ht.keep p3 λx hx=>hp.mem_iff.1 hx) hu;have hc:W9 σ i ((yZ t i).reverse++[]):=Wt t L hn hi (.inl ⟨rfl,rF ht (Tr.dH (Tr.ne_nil hi)) (L.root (Tr.ne_nil hi)).1⟩);rw[List.append_nil] at hc
 exact⟨τ,a',b',⟨_,ρ,hc,by rw[List.length_reverse];exact Nat.le_trans (WE t) (qN hn λx hx=>⟨L.nz x hx,hle x hx⟩),λx hx=>(by
  have hx2:=WC t x (List.mem_reverse.1 hx);refine⟨hle x hx2,?_⟩
  rcases LV L x hx2 with e |e
  ·rw[e];exact hu
  ·exact hle _ e),by rw[List.reverse_reverse];exact p1,q1⟩,q2,q3.trans kU,λx hx=>(q4 x λd=>hx (hp.mem_iff.1 d)).trans (p3 x hx),λx=>(q5 x).trans (p4.key x)⟩
def kF:Nat→List Nat→List (Nat × Nat)
 |_,[]=>[]
 |p,v::L=>(v,p)::kF v L
theorem Jr (A:List Nat):∀(p j:Nat) (B:List Nat),kF p (A++j::B)=kF p (A++[j])++kF j B:=by
 induction A with
 |nil=>intro p j B;rfl
 |cons v A ih=>intro p j B;rw[List.cons_append,kF,ih,List.cons_append,kF,List.cons_append]
theorem mo {L:List Nat}:∀{p v w:Nat},(v,w)∈kF p L→v∈L∧(w=p∨w∈L):=by
 induction L with
 |nil=>intro p v w h;simp[kF] at h
 |cons x L ih=>
  intro p v w h
  rcases List.mem_cons.1 h with h |h
  ·obtain⟨rfl,rfl⟩:=Prod.mk.injEq ..▸h;exact⟨sj,.inl rfl⟩
  ·obtain⟨h1,h2⟩:=ih h;exact⟨by simp[h1],.inr (by rcases h2 with rfl |h2<;>simp[*])⟩
abbrev De:=List (Tr × Nat)
def Lk (D:De) (v p:Nat):Prop:=∃q∈D,(v,p)∈kF q.2 q.1.ino
def vJ (D:De):List Nat:=D.flatMap λq=>q.1.ns
theorem gY {D:De} {x:Nat}:x∈vJ D↔∃q∈D,x∈q.1.ns:=List.mem_flatMap
theorem bQ (q:Tr × Nat) (D:De):vJ (q::D)=q.1.ns++vJ D:=List.flatMap_cons
theorem DI {D D':De} (h:D.Perm D'):(vJ D).Perm (vJ D'):=h.flatMap_right _
theorem Lk.perm {D D':De} (h:D.Perm D') (v p:Nat):Lk D v p↔Lk D' v p:=
 ⟨λ⟨q,hq,k⟩=>⟨q,h.mem_iff.1 hq,k⟩,λ⟨q,hq,k⟩=>⟨q,h.mem_iff.2 hq,k⟩⟩
def Dp (D:De) (d:Nat→Nat):Prop:=∀v p,Lk D v p→p≠0→d p<d v
structure Dc (n:Nat) (σ:Sg) (D:De):Prop where
 lay:∀q∈D,q.1≠.nil∧Lay σ q.1 q.2
 nd:(vJ D).Nodup
 all:∀v,v∈vJ D↔v≠0∧v≤n
 TG:∀q∈D,q.2≤n
theorem vX {D:De} (h:(vJ D).Nodup) {q r:Tr × Nat} {x:Nat} (hq:q∈D) (hr:r∈D) (h1:x∈q.1.ns) (h2:x∈r.1.ns):q=r:=by
 induction D with
 |nil=>simp at hq
 |cons y D ih=>
  rw[bQ,List.nodup_append] at h;obtain⟨a,b,c⟩:=h
  rcases List.mem_cons.1 hq with e1 |e1
  ·rcases List.mem_cons.1 hr with e2 |e2
   ·rw[e1,e2]
   ·exact absurd rfl (c x (e1▸h1) x (gY.2 ⟨r,e2,h2⟩))
  ·rcases List.mem_cons.1 hr with e2 |e2
   ·exact absurd rfl (c x (e2▸h2) x (gY.2 ⟨q,e1,h1⟩))
   ·exact ih b e1 e2
theorem Ji {α:Type} {D:List α} {q:α} (h:q∈D):∃D',D.Perm (q::D'):=by
 obtain⟨A,B,rfl⟩:=List.append_of_mem h;exact⟨A++B,List.perm_middle⟩
theorem oP {D:De} (h:(vJ D).Nodup) {q:Tr × Nat} (hq:q∈D):q.1.ns.Nodup:=by
 induction D with
 |nil=>simp at hq
 |cons y D ih=>
  rw[bQ,List.nodup_append] at h
  rcases List.mem_cons.1 hq with rfl |hq
  ·exact h.1
  ·exact ih h.2.1 hq
theorem acE {L:List Nat} {d:Nat→Nat}:∀{u:Nat},(∀v p,(v,p)∈kF u L→p≠0→d p<d v)→(∀x∈L,x≠0)→u≠0→∀x∈L,d u<d x:=by
 induction L with
 |nil=>intro u _ _ _ x hx;simp at hx
 |cons y L ih=>
  intro u h h0 hu x hx;have h1:=h y u (by simp[kF]) hu
  rcases List.mem_cons.1 hx with rfl |hx
  ·exact h1
  ·exact Nat.lt_trans h1 (ih (λv p hv=>h v p (by simp[kF,hv])) (λz hz=>h0 z (by simp[hz])) (h0 y sj) x hx)
theorem YK {L:List Nat} {C:Nat→Prop}:∀{u:Nat},(∀v p,(v,p)∈kF u L→p≠0→C v→C p)→(∀x∈L,x≠0)→u≠0→∀x∈L,C x→C u:=by
 induction L with
 |nil=>intro u _ _ _ x hx;simp at hx
 |cons y L ih=>
  intro u h h0 hu x hx hc
  rcases List.mem_cons.1 hx with rfl |hx
  ·exact h _ _ (by simp[kF]) hu hc
  ·exact h y u (by simp[kF]) hu (ih (λv p hv=>h v p (by simp[kF,hv])) (λz hz=>h0 z (by simp[hz])) (h0 y sj) x hx hc)
section
variable {n:Nat} {σ:Sg} {D:De} {d:Nat→Nat} {q:Tr × Nat}
theorem Dc.nz (h:Dc n σ D) (hq:q∈D):∀x∈q.1.ns,x≠0∧x≤n:=λx hx=>(h.all x).1 (gY.2 ⟨q,hq,hx⟩)
theorem Dc.above (h:Dc n σ D) (hd:Dp D d) (hq:q∈D) (h0:q.2≠0):∀x∈q.1.ns,d q.2<d x:=λx hx=>
 acE (λv p hv hp=>hd v p ⟨q,hq,hv⟩ hp) (λz hz=>(h.nz hq z (Tr.bF.1 hz)).1) h0 x (Tr.bF.2 hx)
theorem Dc.ag8 (h:Dc n σ D) (hd:Dp D d) (hq:q∈D):y9 σ q.2 q.1.ns:=by
 by_cases h0:q.2=0
 ·exact⟨λc=>(h.nz hq _ c).1 h0,.inl h0⟩
 ·have h1:q.2∉q.1.ns:=λc=>Nat.lt_irrefl _ (h.above hd hq h0 _ c);refine⟨h1,.inr λx hx=>?_⟩;obtain⟨r,hr,hm⟩:=gY.1 ((h.all q.2).2 ⟨h0,h.TG q hq⟩);have hx0:=(h.nz hq x hx).1
  have key:∀k,(k=(σ q.2).k0∨k=(σ q.2).k1)→k≠x:=λk hk e=>by
   have h2:=((h.lay r hr).2.kid q.2 hm k hk (e▸hx0)).1;have h3:=vX h.nd hq hr hx (e▸h2);exact h1 (h3▸hm)
  exact⟨key _ (.inl rfl),key _ (.inr rfl)⟩
theorem Dc.perm {D':De} (h:Dc n σ D) (p:D.Perm D'):Dc n σ D':=
 ⟨λq hq=>h.lay q (p.mem_iff.2 hq),(DI p).nodup_iff.1 h.nd,λv=>by rw[←(DI p).mem_iff];exact h.all v,λq hq=>h.TG q (p.mem_iff.2 hq)⟩
theorem Dc.turn {τ:Sg} {D':De} {t t':Tr} {u u':Nat} (h:Dc n σ ((t,u)::D')) (ht:Lay τ t' u') (hn:t'≠.nil) (hp:t'.ns.Perm t.ns) (hu:u'≤n) (he:∀x,x∉t.ns→τ x=σ x):Dc n τ ((t',u')::D'):=by
 have hnd:=h.nd;rw[bQ,List.nodup_append] at hnd
 have hpp:(vJ ((t',u')::D')).Perm (vJ ((t,u)::D')):=by rw[bQ,bQ];exact hp.append (.refl _)
 refine⟨λq hq=>?_,hpp.nodup_iff.2 h.nd,λv=>by rw[hpp.mem_iff];exact h.all v,λq hq=>?_⟩
 ·rcases List.mem_cons.1 hq with rfl |hq
  ·exact⟨hn,ht⟩
  ·obtain⟨a,b⟩:=h.lay q (by simp[hq]);exact⟨a,b.keep λx hx=>he x λc=>hnd.2.2 x c x (gY.2 ⟨q,hq,hx⟩) rfl⟩
 ·rcases List.mem_cons.1 hq with rfl |hq
  ·exact hu
  ·exact h.TG q (by simp[hq])
end
def yJ (τ:Sg) (j below:Nat):Sg:=dM (τ.put j { τ j with k1:=below }) j
inductive ExR (n:Nat):Sg→Nat→Nat→Sg→Nat→Prop
 |done (σ:Sg) (b:Nat):ExR n σ 0 b σ b
 |step {σ τ ρ:Sg} {j b o:Nat} (h0:j≠0) (hj:j≤n) (hb:b≤n) (h:Spl n σ j τ) (hk:(τ j).k1≤n) (r:kN n (τ.put j { τ j with k1:=b }) j) (g:ExR n (yJ τ j b) (τ j).up j ρ o):ExR n σ j b ρ o
def Exp (n:Nat) (σ:Sg) (i:Nat) (τ:Sg):Prop:=∃ρ o,ExR n σ i 0 ρ o∧Spl n ρ i τ
theorem EI {n:Nat} {σ:Sg} {D':De} {t:Tr} {u i:Nat} {d:Nat→Nat} (h:Dc n σ ((t,u)::D')) (hd:Dp ((t,u)::D') d) (hi:i∈t.ns):
  ∃τ a b,Spl n σ i τ∧Dc n τ ((.nd false a i b,u)::D')∧(Tr.nd false a i b).ino=t.ino∧(∀x,(τ x).key=(σ x).key):=by
 have hq:(t,u)∈(t,u)::D':=sj;obtain⟨τ,a,b,h1,h2,h3,h4,h5⟩:=OX (h.lay _ hq).2 (oP h.nd hq) (λx hx=>(h.nz hq x hx).2) (h.ag8 hd hq) (h.TG _ hq) hi;exact⟨τ,a,b,h1,h.turn h2 (λe=>nomatch e) (jI h3) (h.TG _ hq) h4,h3,h5⟩
theorem Lk.ino {D':De} {t t':Tr} {u:Nat} (h:t'.ino=t.ino) (v p:Nat):Lk ((t',u)::D') v p↔Lk ((t,u)::D') v p:=by
 unfold Lk;simp only[List.mem_cons,exists_eq_or_imp];rw[h]
theorem Dp.of {D D':De} {d:Nat→Nat} (h:Dp D d) (e:∀v p,Lk D' v p↔Lk D v p):Dp D' d:=λv p k=>h v p ((e v p).1 k)
def opt (t:Tr) (u:Nat):De:=match t with |.nil=>[] |t=>[(t,u)]
theorem rP (u:Nat):opt .nil u=[]:=rfl
theorem qJ {t:Tr} (h:t≠.nil) (u:Nat):opt t u=[(t,u)]:=by cases t with |nil=>exact absurd rfl h |nd=>rfl
theorem A9 (t:Tr) (u:Nat) (D:De):vJ (opt t u++D)=t.ns++vJ D:=by cases t with |nil=>rfl |nd=>exact bQ _ _
theorem QE (t:Tr) (u:Nat) (D:De) (v p:Nat):Lk (opt t u++D) v p↔(v,p)∈kF u t.ino∨Lk D v p:=by
 cases t with
 |nil=>exact⟨.inr,λh=>h.elim (λh=>nomatch h) id⟩
 |nd f a x b=>
  unfold Lk;show(∃q∈(Tr.nd f a x b,u)::D,_)↔_;simp only[List.mem_cons,exists_eq_or_imp]
theorem jF (t:Tr) (u:Nat) (D:De) (v p:Nat):Lk ((t,u)::D) v p↔(v,p)∈kF u t.ino∨Lk D v p:=by
 unfold Lk;simp only[List.mem_cons,exists_eq_or_imp]
theorem Wl {n:Nat} {τ:Sg} {D':De} {a b tb:Tr} {u j:Nat} (h:Dc n τ ((.nd false a j b,u)::(opt tb j++D'))):
  j≠0∧j≤n∧tb.rt≤n∧(τ j).k1≤n∧(τ j).up=u∧kN n (τ.put j { τ j with k1:=tb.rt }) j∧Dc n (yJ τ j tb.rt) ((.nd false a j tb,u)::(opt b j++D'))∧
  (∀v p,Lk ((.nd false a j tb,u)::(opt b j++D')) v p↔Lk ((.nd false a j b,u)::(opt tb j++D')) v p)∧(∀x,(yJ τ j tb.rt x).key=(τ x).key):=by
 have hq:(Tr.nd false a j b,u)∈(Tr.nd false a j b,u)::(opt tb j++D'):=sj;obtain⟨h1,h2,h3,h4,h5,h6,h7,h8,h9⟩:=(h.lay _ hq).2;have hnd:=h.nd;rw[bQ,A9] at hnd;have uJ:((a.ns++j::b.ns)++(tb.ns++vJ D')).Nodup:=hnd;obtain⟨n1,n2,n3⟩:=List.nodup_append.1 uJ;obtain⟨na,nb,nab⟩:=List.nodup_append.1 n1;obtain⟨njb,nb⟩:=List.nodup_cons.1 nb;obtain⟨nt,nD,ntD⟩:=List.nodup_append.1 n2;have ja:j∉a.ns:=λc=>nab j c j sj rfl;have jt:j∉tb.ns:=λc=>n3 j sj j (by simp[c]) rfl;have hjn:=(h.nz hq j (by simp[Tr.ns])).2
 have all:∀x,x∈(a.ns++j::b.ns)++(tb.ns++vJ D')↔x≠0∧x≤n:=λx=>by
  have:=h.all x;rw[bQ,A9] at this;exact this
 have lt:tb≠.nil→Lay τ tb j:=λe=>(h.lay (tb,j) (by rw[qJ e];simp)).2
 have lt':Lay τ tb j:=by
  by_cases e:tb=.nil
  ·subst e;trivial
  ·exact lt e
 have htb:tb.rt≤n:=by
  by_cases e:tb=.nil
  ·subst e;exact Nat.zero_le _
  ·exact((all _).1 (by simp[Tr.dH e])).2
 have hk1:(τ j).k1≤n:=by
  rw[h3]
  by_cases e:b=.nil
  ·subst e;exact Nat.zero_le _
  ·exact((all _).1 (by simp[Tr.dH e])).2
 have ej:(τ.put j { τ j with k1:=tb.rt }) j={ τ j with k1:=tb.rt }:=Sg.put_eq _ _ _;have ex:∀x,x≠j→(τ.put j { τ j with k1:=tb.rt }) x=τ x:=λx hx=>Sg.bE _ _ hx
 obtain⟨R,L⟩:=lK (n:=n) (σ:=τ.put j { τ j with k1:=tb.rt }) (s:=false) (x:=a) (y:=tb) (v:=j) (p:=u) h1 hjn (by rw[ej];exact h2) (by rw[ej];rfl) (by rw[ej];exact h4) (by rw[ej];exact h5)
  (h8.keep λx hx=>ex x λe=>ja (e▸hx)) (lt'.keep λx hx=>ex x λe=>jt (e▸hx)) na nt ja jt (λx hx=>((all x).1 (by simp[hx])).2) (λx hx=>((all x).1 (by simp[hx])).2)
 have es:∀x,x≠j→yJ τ j tb.rt x=τ x:=λx hx=>by unfold yJ;rw[eX hx,ex x hx]
 have hpp:(vJ ((.nd false a j tb,u)::(opt b j++D'))).Perm ((a.ns++j::b.ns)++(tb.ns++vJ D')):=by
  rw[bQ,A9];show((a.ns++j::tb.ns)++(b.ns++vJ D')).Perm _;rw[List.append_assoc,List.append_assoc,List.cons_append,List.cons_append];refine(List.Perm.refl a.ns).append (List.Perm.cons j ?_);rw[←List.append_assoc,←List.append_assoc];exact List.perm_append_comm.append (.refl _)
 refine⟨h1,hjn,htb,hk1,h5,R,⟨λq hq2=>?_,hpp.nodup_iff.2 uJ,λv=>by rw[hpp.mem_iff];exact all v,λq hq2=>?_⟩,λv p=>?_,λx=>?_⟩
 ·rcases List.mem_cons.1 hq2 with rfl |hq2
  ·exact⟨λe=>(nomatch e),L⟩
  ·rcases List.mem_append.1 hq2 with hq2 |hq2
   ·by_cases e:b=.nil
    ·subst e;simp[rP] at hq2
    ·rw[qJ e] at hq2;obtain rfl:=List.mem_singleton.1 hq2;exact⟨e,h9.keep λx hx=>es x λe2=>njb (e2▸hx)⟩
   ·obtain⟨k1,k2⟩:=h.lay q (by simp[hq2]);exact⟨k1,k2.keep λx hx=>es x λe2=>n3 j sj x (List.mem_append.2 (.inr (gY.2 ⟨q,hq2,hx⟩))) e2.symm⟩
 ·rcases List.mem_cons.1 hq2 with rfl |hq2
  ·exact(h.TG _ hq:u≤n)
  ·rcases List.mem_append.1 hq2 with hq2 |hq2
   ·by_cases e:b=.nil
    ·subst e;simp[rP] at hq2
    ·rw[qJ e] at hq2;obtain rfl:=List.mem_singleton.1 hq2;exact hjn
   ·exact h.TG q (by simp[hq2])
 ·rw[jF,QE,jF,QE,Tr.Eh,Tr.Eh,Jr,Jr a.ino u j b.ino,List.mem_append,List.mem_append];constructor
  ·rintro((e |e) |e |e)
   ·exact .inl (.inl e)
   ·exact .inr (.inl e)
   ·exact .inl (.inr e)
   ·exact .inr (.inr e)
  ·rintro((e |e) |e |e)
   ·exact .inl (.inl e)
   ·exact .inr (.inl e)
   ·exact .inl (.inr e)
   ·exact .inr (.inr e)
 ·unfold yJ;rw[jl]
  by_cases c:x=j
  ·rw[c,ej]
  ·rw[ex x c]
theorem Wm {n i:Nat} {d:Nat→Nat} {C:Nat→Prop}:∀(m:Nat) (σ:Sg) (D D':De) (j:Nat) (tb:Tr),D.Perm (opt tb j++D')→Dc n σ D→Dp D d→(j=0∨d j<m)→(j≠0→C j)→j≤n→
  (∀v p,Lk D v p→p≠0→C v→C p)→(tb=.nil∧j=i∨tb≠.nil∧tb.ino.getLast?=some i)→(tb=.nil→j≠0)→(∀x∈tb.ns,∃y∈tb.ns,C y)→
  ∃τ D2 D3 t2,ExR n σ j tb.rt τ t2.rt∧D2.Perm ((t2,0)::D3)∧Dc n τ D2∧(∀v p,Lk D2 v p↔Lk D v p)∧t2.ino.getLast?=some i∧(∀x,(τ x).key=(σ x).key)∧(∀q∈D,(∀x∈q.1.ns,¬C x)→q∈D3):=by
 intro m
 induction m with
 |zero=>
  intro σ D D' j tb hp h hd hj hC hjn hcl hl h0 hT;obtain rfl:j=0:=om;have ht:tb≠.nil:=λe=>h0 e rfl;rw[qJ ht] at hp;refine⟨σ,D,D',tb,.done σ _,hp,h,λ_ _=>Iff.rfl,hl.elim (λe=>absurd e.1 ht) (λe=>e.2),λ_=>rfl,λq hq hx=>?_⟩
  rcases List.mem_cons.1 (hp.mem_iff.1 hq) with rfl |e
  ·obtain⟨y,hy,hc⟩:=hT _ (Tr.dH ht);exact absurd hc (hx y hy)
  ·exact e
 |succ m ih=>
  intro σ D D' j tb hp h hd hj hC hjn hcl hl h0 hT
  by_cases hj0:j=0
  ·subst hj0;have ht:tb≠.nil:=λe=>h0 e rfl;rw[qJ ht] at hp;refine⟨σ,D,D',tb,.done σ _,hp,h,λ_ _=>Iff.rfl,hl.elim (λe=>absurd e.1 ht) (λe=>e.2),λ_=>rfl,λq hq hx=>?_⟩
   rcases List.mem_cons.1 (hp.mem_iff.1 hq) with rfl |e
   ·obtain⟨y,hy,hc⟩:=hT _ (Tr.dH ht);exact absurd hc (hx y hy)
   ·exact e
  ·have hcj:=hC hj0;have hP:=h.perm hp;have hdP:Dp (opt tb j++D') d:=hd.of λv p=>(Lk.perm hp v p).symm;obtain⟨r,hr,hm⟩:=gY.1 ((hP.all j).2 ⟨hj0,hjn⟩)
   have hrD:r∈D':=by
    rcases List.mem_append.1 hr with e |e
    ·by_cases c:tb=.nil
     ·subst c;simp[rP] at e
     ·rw[qJ c] at e;obtain rfl:=List.mem_singleton.1 e;exact absurd (hP.above hdP hr hj0 j hm) (Nat.lt_irrefl _)
    ·exact e
   obtain⟨t,u⟩:=r;obtain⟨De0,hDe⟩:=Ji hrD;have hp2:D.Perm ((t,u)::(opt tb j++De0)):=(hp.trans ((List.Perm.refl _).append hDe)).trans List.perm_middle;have h2:=h.perm hp2;have hd2:Dp ((t,u)::(opt tb j++De0)) d:=hd.of λv p=>(Lk.perm hp2 v p).symm;have hq:(t,u)∈(t,u)::(opt tb j++De0):=sj;obtain⟨τ,a,b,s1,s2,s3,s4⟩:=EI h2 hd2 hm;obtain⟨e1,e2,e3,e4,e5,e6,e7,e8,e9⟩:=Wl s2
   have hlk:∀v p,Lk ((.nd false a j tb,u)::(opt b j++De0)) v p↔Lk D v p:=λv p=>by
    rw[e8 v p,Lk.ino s3 v p,Lk.perm hp2]
   have Co:u≠0→C u:=λhu=>YK (C:=C) (u:=u) (L:=t.ino) (λv p hv hp0=>hcl v p ((Lk.perm hp2 v p).2 ⟨_,hq,hv⟩) hp0) (λx hx=>(h2.nz hq x (Tr.bF.1 hx)).1) hu j (Tr.bF.2 hm) hcj
   obtain⟨ρ,D2,D3,t2,g1,g2,g3,g4,g5,g6,g7⟩:=ih (yJ τ j tb.rt) _ (opt b j++De0) u (.nd false a j tb) (.refl _) e7 (hd.of hlk)
    (by
     by_cases hu:u=0
     ·exact .inl hu
     ·have:=h2.above hd2 hq hu j hm;have hj2:=hj.resolve_left hj0
      exact .inr (by show d u<m;have:d u<d j:=this;omega))
    Co (h2.TG _ hq) (λv p hv=>hcl v p ((hlk v p).1 hv))
    (.inr ⟨(λe=>nomatch e),by
     rw[Tr.Eh]
     rcases hl with⟨rfl,rfl⟩ |⟨c1,c2⟩
     ·show(a.ino++[j]).getLast?=_;simp
     ·rw[List.getLast?_append]
      obtain⟨y,ys,hy⟩:∃y ys,tb.ino=y::ys:=by
       cases hh:tb.ino with
       |nil=>rw[hh] at c2;simp at c2
       |cons y ys=>exact⟨y,ys,rfl⟩
      rw[hy] at c2⊢
      rw[List.getLast?_cons_cons,c2];rfl⟩)
    (λe=>nomatch e) (λx _=>⟨j,by simp[Tr.ns],hcj⟩)
   refine⟨ρ,D2,D3,t2,.step hj0 hjn e3 s1 e4 e6 (by rw[e5];exact g1),g2,g3,λv p=>(g4 v p).trans (hlk v p),g5,λx=>((g6 x).trans (e9 x)).trans (s4 x),λq hq2 hx=>g7 q ?_ hx⟩
   rcases List.mem_cons.1 (hp2.mem_iff.1 hq2) with rfl |e
   ·exact absurd hcj (hx j hm)
   ·rcases List.mem_append.1 e with e |e
    ·by_cases c:tb=.nil
     ·subst c;simp[rP] at e
     ·rw[qJ c] at e;obtain rfl:=List.mem_singleton.1 e;obtain⟨y,hy,hc⟩:=hT _ (Tr.dH c);exact absurd hc (hx y hy)
    ·simp[e]
theorem iU {n i:Nat} {d:Nat→Nat} {σ:Sg} {D:De} (h:Dc n σ D) (hd:Dp D d) (h0:i≠0) (hn:i≤n) (C:Nat→Prop) (hC:C i) (hcl:∀v p,Lk D v p→p≠0→C v→C p):
  ∃τ D3 a,Exp n σ i τ∧Dc n τ ((.nd false a i .nil,0)::D3)∧(∀v p,Lk ((.nd false a i .nil,0)::D3) v p↔Lk D v p)∧(∀x,(τ x).key=(σ x).key)∧(∀q∈D,(∀x∈q.1.ns,¬C x)→q∈D3):=by
 obtain⟨τ,D2,D3,t2,g1,g2,g3,g4,g5,g6,g7⟩:=Wm (C:=C) (i:=i) (d i+1) σ D D i .nil (by rw[rP];exact .refl _) h hd (.inr (Nat.lt_succ_self _)) (λ_=>hC) hn hcl (.inl ⟨rfl,rfl⟩) (λ_=>h0) (λx hx=>by simp[Tr.ns] at hx);have h2:=g3.perm g2;have hd2:Dp ((t2,0)::D3) d:=hd.of λv p=>(Lk.perm g2 v p).symm.trans (g4 v p);have hi:i∈t2.ns:=Tr.bF.1 (List.mem_of_getLast? g5);obtain⟨ρ,a,b,s1,s2,s3,s4⟩:=EI h2 hd2 hi
 have hb:b=.nil:=by
  have hnd:=oP s2.nd (q:=(.nd false a i b,0)) sj;have uJ:(Tr.nd false a i b).ino.Nodup:=(Tr.jX _).nodup_iff.2 hnd
  have hl:(Tr.nd false a i b).ino.getLast?=some i:=by rw[s3];exact g5
  rw[Tr.Eh] at uJ hl
  cases hb:b.ino with
  |nil=>
   cases b with
   |nil=>rfl
   |nd f x y z=>have:=Tr.Bq (Tr.nd f x y z);rw[hb] at this;simp[Tr.ns] at this
  |cons y ys=>
   rw[hb,List.getLast?_append,List.getLast?_cons_cons] at hl
   have hm:i∈y::ys:=List.mem_of_getLast? (by
    cases e:(y::ys).getLast? with
    |none=>simp at e
    |some z=>rw[e] at hl;simpa using hl)
   rw[hb] at uJ;exact absurd hm (List.nodup_cons.1 (List.nodup_append.1 uJ).2.1).1
 subst hb;exact⟨ρ,D3,a,⟨τ,_,g1,s1⟩,s2,λv p=>(Lk.ino s3 v p).trans ((Lk.perm g2 v p).symm.trans (g4 v p)),λx=>(s4 x).trans (g6 x),g7⟩
def Ad (D:De) (v w:Nat):Prop:=Lk D v w∧w≠0∨Lk D w v∧v≠0
theorem Ad.symm {D:De} {v w:Nat} (h:Ad D v w):Ad D w v:=h.elim .inr .inl
theorem Ad.of {D D':De} (h:∀v p,Lk D' v p↔Lk D v p) (v w:Nat):Ad D' v w↔Ad D v w:=by unfold Ad;rw[h,h]
inductive Up (D:De) (v:Nat):Nat→Prop
 |refl:Up D v v
 |step {w p:Nat} (h:Up D v w) (e:Lk D w p) (h0:p≠0):Up D v p
theorem Up.head {D:De} {v r:Nat} (h:Up D v r):v=r∨∃w,Lk D v w∧w≠0∧Up D w r:=by
 induction h with
 |refl=>exact .inl rfl
 |step h e h0 ih=>
  rcases ih with rfl |⟨w,h1,h2,h3⟩
  ·exact .inr ⟨_,e,h0,.refl⟩
  ·exact .inr ⟨w,h1,h2,.step h3 e h0⟩
theorem Up.cons {D:De} {v w r:Nat} (e:Lk D v w) (h0:w≠0) (h:Up D w r):Up D v r:=by
 induction h with
 |refl=>exact .step .refl e h0
 |step _ e2 h2 ih=>exact .step ih e2 h2
theorem Vl {L:List Nat}:∀{p v w w':Nat},L.Nodup→(v,w)∈kF p L→(v,w')∈kF p L→w=w':=by
 induction L with
 |nil=>intro p v w w' _ h;simp[kF] at h
 |cons x L ih=>
  intro p v w w' hn h k;obtain⟨n1,n2⟩:=List.nodup_cons.1 hn
  rcases List.mem_cons.1 h with h |h<;>rcases List.mem_cons.1 k with k |k
  ·have h1:=Prod.mk.inj h;have k1:=Prod.mk.inj k;omega
  ·have h1:=Prod.mk.inj h;exact absurd (h1.1▸(mo k).1) n1
  ·have k1:=Prod.mk.inj k;exact absurd (k1.1▸(mo h).1) n1
  ·exact ih n2 h k
section
variable {n:Nat} {σ:Sg} {D:De} {d:Nat→Nat}
theorem Dc.one (h:Dc n σ D) {v w w':Nat} (h1:Lk D v w) (h2:Lk D v w'):w=w':=by
 obtain⟨q,hq,k⟩:=h1;obtain⟨r,hr,l⟩:=h2;have e:=vX h.nd hq hr (Tr.bF.1 (mo k).1) (Tr.bF.1 (mo l).1);subst e;exact Vl (q.1.jX.nodup_iff.2 (oP h.nd hq)) k l
theorem Dc.Xo (h:Dc n σ D) {v w:Nat} (h1:Lk D v w):v≠0∧v≤n∧w≤n:=by
 obtain⟨q,hq,k⟩:=h1;obtain⟨a,b⟩:=mo k;have h2:=h.nz hq v (Tr.bF.1 a);refine⟨h2.1,h2.2,?_⟩
 rcases b with rfl |b
 ·exact h.TG q hq
 ·exact(h.nz hq w (Tr.bF.1 b)).2
theorem Up.IW (h:Dc n σ D) {v w r:Nat} (hu:Up D v r) (e:Lk D v w) (hv:v≠r):w≠0∧Up D w r:=by
 rcases hu.head with c |⟨w',h1,h2,h3⟩
 ·exact absurd c hv
 ·obtain rfl:=h.one e h1;exact⟨h2,h3⟩
theorem Dc.UH (h:Dc n σ D) {r v:Nat} (hr:Lk D r 0) (hv:cZ (Ad D) r v):Up D v r:=by
 induction hv with
 |refl=>exact .refl
 |@step b c _ e ih=>
  rcases e with⟨e,e0⟩ |⟨e,e0⟩
  ·by_cases hc:b=r
   ·subst hc;exact absurd (h.one e hr) e0
   ·exact(Up.IW h ih e hc).2
  ·exact Up.cons e e0 ih
theorem Dc.Du (h:Dc n σ D) {r r':Nat} (hr:Lk D r 0) (hr':Lk D r' 0) (hv:cZ (Ad D) r r'):r=r':=by
 rcases(h.UH hr hv).head with c |⟨w,h1,h2,_⟩
 ·exact c.symm
 ·exact absurd (h.one h1 hr') h2
theorem LM {L:List Nat} {C:Nat→Prop} {u:Nat}:∀{y:Nat},(∀v p,(v,p)∈kF u (y::L)→v∈y::L→p∈y::L→C v→C p)→(∀v p,(v,p)∈kF u (y::L)→v∈y::L→p∈y::L→C p→C v)→∀x∈y::L,C x↔C y:=by
 revert u
 induction L with
 |nil=>intro u y _ _ x hx;rw[List.mem_singleton.1 hx]
 |cons z L ih=>
  intro u y h1 h2 x hx
  have e1:(z,y)∈kF u (y::z::L):=by simp[kF]
  have hzy:C z↔C y:=⟨h1 z y e1 sj sj,h2 z y e1 sj sj⟩
  rcases List.mem_cons.1 hx with rfl |hx
  ·exact Iff.rfl
  ·refine(ih (u:=y) (λv p hv a b=>h1 v p (by rw[kF];exact List.mem_cons_of_mem _ hv) (by simp[a]) (by simp[b])) (λv p hv a b=>h2 v p (by rw[kF];exact List.mem_cons_of_mem _ hv) (by simp[a]) (by simp[b])) x hx).trans hzy
theorem Dc.nN (h:Dc n σ D) {q:Tr × Nat} (hq:q∈D) {x y:Nat} (hx:x∈q.1.ns) (hy:y∈q.1.ns):cZ (Ad D) x y:=by
 obtain⟨z,L,hz⟩:∃z L,q.1.ino=z::L:=by
  cases e:q.1.ino with
  |nil=>exact absurd (Tr.bF.2 hx) (by rw[e];simp)
  |cons z L=>exact⟨z,L,rfl⟩
 have key:∀x∈q.1.ns,cZ (Ad D) z x:=λx hx=>by
  refine(LM (C:=λv=>cZ (Ad D) z v) (u:=q.2) (L:=L) (y:=z) (λv p hv a b c=>?_) (λv p hv a b c=>?_) x (hz▸Tr.bF.2 hx)).2 .refl
  ·exact .step c (.inl ⟨⟨q,hq,hz▸hv⟩,(h.nz hq p (Tr.bF.1 (hz▸b))).1⟩)
  ·exact .step c (.inr ⟨⟨q,hq,hz▸hv⟩,(h.nz hq p (Tr.bF.1 (hz▸b))).1⟩)
 exact((key x hx).symm λ_ _=>Ad.symm).trans (key y hy)
theorem YN {t:Tr}:∀{p:Nat},Lay σ t p→∀x∈t.ns,x≠t.rt→(σ x).up≠0:=by
 induction t with
 |nil=>intro p _ x hx;simp[Tr.ns] at hx
 |nd f l v r hl hr=>
  intro p h x hx hv;obtain⟨h1,h2,h3,h4,h5,h6,h7,h8,h9⟩:=h
  rcases Tr.aY.1 hx with hx |hx |hx
  ·by_cases c:x=l.rt
   ·rw[c,(h8.root (Tr.ne_nil hx)).1];exact h1
   ·exact hl h8 x hx c
  ·exact absurd hx hv
  ·by_cases c:x=r.rt
   ·rw[c,(h9.root (Tr.ne_nil hx)).1];exact h1
   ·exact hr h9 x hx c
theorem Dc.qV (_h:Dc n σ D) (b:Nat):∀v p,Lk D v p→p≠0→cZ (Ad D) b v→cZ (Ad D) b p:=λ_ _ hl h0 k=>.step k (.inl ⟨hl,h0⟩)
end
def wC (n:Nat) (σ:Sg) (A:Nat→Nat→Prop):Prop:=∃D d,Dc n σ D∧Dp D d∧∀v w,Ad D v w↔A v w
theorem cZ.iff {A B:Nat→Nat→Prop} (s:∀v w,A v w↔B v w) {a b:Nat}:cZ A a b↔cZ B a b:=⟨.mono λv w=>(s v w).1,.mono λv w=>(s v w).2⟩
section
variable {n:Nat} {σ:Sg} {A:Nat→Nat→Prop}
theorem wC.symm (h:wC n σ A) {v w:Nat} (e:A v w):A w v:=by
 obtain⟨D,d,_,_,h3⟩:=h;exact(h3 _ _).1 ((h3 _ _).2 e).symm
theorem wC.in (h:wC n σ A) {v w:Nat} (e:A v w):v≠0∧v≤n∧w≠0∧w≤n:=by
 obtain⟨D,d,h1,_,h3⟩:=h
 rcases(h3 _ _).2 e with⟨k,k0⟩ |⟨k,k0⟩
 ·have:=h1.Xo k;exact⟨this.1,this.2.1,k0,this.2.2⟩
 ·have:=h1.Xo k;exact⟨k0,this.2.2,this.1,this.2.1⟩
theorem wC.iff {B:Nat→Nat→Prop} (h:wC n σ A) (s:∀v w,A v w↔B v w):wC n σ B:=by
 obtain⟨D,d,h1,h2,h3⟩:=h;exact⟨D,d,h1,h2,λv w=>(h3 v w).trans (s v w)⟩
theorem Gn (h:wC n σ A) {i:Nat} (h0:i≠0) (hn:i≤n):∃τ,Exp n σ i τ∧wC n τ A∧∀x,(τ x).key=(σ x).key:=by
 obtain⟨D,d,h1,h2,h3⟩:=h;obtain⟨τ,D3,a,e1,e2,e3,e4,_⟩:=iU h1 h2 h0 hn (cZ (Ad D) i) .refl (h1.qV i);exact⟨τ,e1,⟨_,d,e2,h2.of e3,λv w=>(Ad.of e3 v w).trans (h3 v w)⟩,e4⟩
theorem QL (h:wC n σ A) {a b:Nat} (ha:a≠0) (han:a≤n) (hb:b≠0) (hbn:b≤n) (hab:a≠b):
  ∃τ ρ,Exp n σ a τ∧Exp n τ b ρ∧wC n ρ A∧(∀x,(ρ x).key=(σ x).key)∧((ρ a).up≠0↔cZ A a b):=by
 obtain⟨D,d,h1,h2,h3⟩:=h;obtain⟨τ,D3,x,e1,e2,e3,e4,_⟩:=iU h1 h2 ha han (cZ (Ad D) a) .refl (h1.qV a);have hd2:=h2.of e3;have hA2:∀v w,Ad ((.nd false x a .nil,0)::D3) v w↔A v w:=λv w=>(Ad.of e3 v w).trans (h3 v w);obtain⟨ρ,D4,y,f1,f2,f3,f4,f5⟩:=iU e2 hd2 hb hbn (cZ (Ad ((.nd false x a .nil,0)::D3)) b) .refl (e2.qV b);have hA3:∀v w,Ad ((.nd false y b .nil,0)::D4) v w↔A v w:=λv w=>(Ad.of f3 v w).trans (hA2 v w);refine⟨τ,ρ,e1,f1,⟨_,d,f2,hd2.of f3,hA3⟩,λz=>(f4 z).trans (e4 z),?_⟩;constructor
 ·intro hu;apply Classical.byContradiction;intro hc;have hm:=f5 (.nd false x a .nil,0) sj λz hz hr=>hc ((cZ.iff hA2).1 (cZ.trans (e2.nN (q:=(.nd false x a .nil,0)) sj (by simp[Tr.ns]) hz) (hr.symm λ_ _=>Ad.symm)));exact hu (f2.lay _ (List.mem_cons_of_mem _ hm)).2.2.2.2.2.1
 ·intro hr hu;have hr':=(cZ.iff hA3).2 hr;obtain⟨q,hq,hm⟩:=gY.1 ((f2.all a).2 ⟨ha,han⟩);have hrt:a=q.1.rt:=Classical.byContradiction λc=>YN (f2.lay q hq).2 a hm c hu
  have hq0:q.2=0:=by
   have:=((f2.lay q hq).2.root (f2.lay q hq).1).1;rw[←hrt] at this;exact this.symm.trans hu
  have first:∀r∈((.nd false y b .nil,0)::D4:De),r.2=0→∃z∈r.1.ns,Lk ((.nd false y b .nil,0)::D4) z 0:=λr hr hr0=>by
   cases e:r.1.ino with
   |nil=>
    have:=(f2.lay r hr).1;exact absurd (Tr.bF.2 (Tr.dH this)) (by rw[e];simp)
   |cons z L=>exact⟨z,Tr.bF.1 (by rw[e];simp),r,hr,by rw[e,hr0];simp[kF]⟩
  obtain⟨z1,hz1,l1⟩:=first q hq hq0
  obtain⟨z2,hz2,l2⟩:=first _ (List.mem_cons_self ..) rfl
  have hb1:cZ (Ad ((.nd false y b .nil,0)::D4)) z1 z2:=((f2.nN hq hz1 hm).trans hr').trans (f2.nN (q:=(.nd false y b .nil,0)) sj (by simp[Tr.ns]) hz2);obtain rfl:=f2.Du l1 l2 hb1;have:=vX f2.nd hq (List.mem_cons_self ..) hz1 hz2;subst this;exact hab hrt
end
def Nx (L:List Nat) (v w:Nat):Prop:=∃A B,L=A++v::w::B
theorem Nx.rev {L:List Nat} {v w:Nat} (h:Nx L v w):Nx L.reverse w v:=by
 obtain⟨A,B,rfl⟩:=h;exact⟨B.reverse,A.reverse,sj⟩
theorem Nx.mem {L:List Nat} {v w:Nat} (h:Nx L v w):v∈L∧w∈L:=by
 obtain⟨A,B,rfl⟩:=h;simp
theorem Nx.cons {L:List Nat} {v w:Nat} (x:Nat) (h:Nx L v w):Nx (x::L) v w:=by
 obtain⟨A,B,rfl⟩:=h;exact⟨x::A,B,rfl⟩
theorem Nx.Oi {L:List Nat} {x v w:Nat} (h:Nx (x::L) v w):(x=v∧∃B,L=w::B)∨Nx L v w:=by
 obtain⟨A,B,e⟩:=h
 cases A with
 |nil=>
  rw[List.nil_append] at e;obtain⟨e1,e2⟩:=List.cons.inj e;exact .inl ⟨e1,B,e2⟩
 |cons y A=>
  rw[List.cons_append] at e;obtain⟨_,e2⟩:=List.cons.inj e;exact .inr ⟨A,B,e2⟩
theorem Bl {L:List Nat}:∀{u v p:Nat},(v,p)∈kF u L↔(∃M,L=v::M∧p=u)∨Nx L p v:=by
 induction L with
 |nil=>
  intro u v p;constructor
  ·intro h;simp[kF] at h
  ·rintro(⟨M,h,_⟩ |⟨A,B,h⟩)
   ·exact nomatch h
   ·cases A<;>simp at h
 |cons x L ih=>
  intro u v p;rw[kF,List.mem_cons,ih];constructor
  ·rintro(h |⟨M,rfl,rfl⟩ |h)
   ·obtain⟨e1,e2⟩:=Prod.mk.inj h;exact .inl ⟨L,by rw[e1],e2⟩
   ·exact .inr ⟨[],M,rfl⟩
   ·exact .inr (h.cons x)
  ·rintro(⟨M,h,rfl⟩ |h)
   ·obtain⟨e1,_⟩:=List.cons.inj h;exact .inl (by rw[e1])
   ·rcases h.Oi with⟨e,B,e2⟩ |h
    ·exact .inr (.inl ⟨B,e2,e.symm⟩)
    ·exact .inr (.inr h)
theorem U9 {L:List Nat} (h:L.Nodup):∃f:Nat→Nat,(∀v w,Nx L v w→f v<f w)∧∀x∈L,f x<L.length:=by
 induction L with
 |nil=>exact⟨id,λv w ⟨A,B,e⟩=>(by cases A<;>simp at e),λx hx=>by simp at hx⟩
 |cons y L ih=>
  obtain⟨n1,n2⟩:=List.nodup_cons.1 h;obtain⟨f,h1,h2⟩:=ih n2;refine⟨λx=>if x=y then 0 else f x+1,λv w hv=>?_,λx hx=>?_⟩
  ·simp only
   rcases hv.Oi with⟨rfl,B,e⟩ |hv
   ·rw[if_pos rfl,if_neg]
    ·exact Nat.succ_pos _
    ·intro e2;subst e2;rw[e] at n1;simp at n1
   ·have:=h1 v w hv;have hm:=hv.mem;have a1:v≠y:=λe=>n1 (by rw[←e];exact hm.1);have a2:w≠y:=λe=>n1 (by rw[←e];exact hm.2);rw[if_neg a1,if_neg a2];omega
  ·simp only
   split
   ·simp
   ·rename_i hne;have:=h2 x ((List.mem_cons.1 hx).resolve_left hne);simp;omega
theorem uw {n:Nat} {σ:Sg} {D:De} (h:Dc n σ D) {q:Tr × Nat} (hq:q∈D):q.1.ino.Nodup:=q.1.jX.nodup_iff.2 (oP h.nd hq)
def WL (n:Nat) (σ:Sg) (i:Nat) (τ:Sg):Prop:=∃ρ,Exp n σ i ρ∧τ=ρ.put i { ρ i with fl:=true }
section
variable {n:Nat} {σ:Sg} {A:Nat→Nat→Prop}
theorem D8 (h:wC n σ A) {i:Nat} (h0:i≠0) (hn:i≤n):∃τ a D3 d,WL n σ i τ∧Dc n τ ((.nd true a i .nil,0)::D3)∧Dp ((.nd true a i .nil,0)::D3) d∧
  (∀v w,Ad ((.nd true a i .nil,0)::D3) v w↔A v w)∧(∀x,(τ x).key=(σ x).key)∧Lk ((.nd true a i .nil,0)::D3) i 0:=by
 obtain⟨D,d,h1,h2,h3⟩:=h;obtain⟨ρ,D3,a,e1,e2,e3,e4,_⟩:=iU h1 h2 h0 hn (cZ (Ad D) i) .refl (h1.qV i);have hd2:=h2.of e3;have hA2:∀v w,Ad ((.nd false a i .nil,0)::D3) v w↔A v w:=λv w=>(Ad.of e3 v w).trans (h3 v w);have hq:(Tr.nd false a i .nil,0)∈((.nd false a i .nil,0)::D3:De):=sj;obtain⟨l1,l2,l3,l4,l5,l6,l7,l8,l9⟩:=(e2.lay _ hq).2;obtain⟨τ,hτ⟩:∃τ:Sg,τ=ρ.put i { ρ i with fl:=true }:=⟨_,rfl⟩
 have ti:τ i={ ρ i with fl:=true }:=by rw[hτ,Sg.put_eq]
 have tx:∀x,x≠i→τ x=ρ x:=λx hx=>by rw[hτ,Sg.bE _ _ hx]
 have tk:∀x,(τ x).key=(ρ x).key:=λx=>by
  by_cases c:x=i
  ·rw[c,ti]
  ·rw[tx x c]
 have hnd:=oP e2.nd hq
 have hia:i∉a.ns:=by
  have uJ:(a.ns++[i]).Nodup:=hnd;rw[List.nodup_append] at uJ;exact λc=>uJ.2.2 i c i sj rfl
 have hL:Lay τ (.nd true a i .nil) 0:=by
  refine⟨l1,by rw[ti,←l2],by rw[ti,←l3],by rw[ti],by rw[ti];exact l5,by rw[ti];exact l6,?_,l8.keep λx hx=>tx x λe=>hia (e▸hx),trivial⟩;rw[ti];exact oL.keys (σ:=ρ) l7 λx _=>tk x
 have hD:Dc n τ ((.nd true a i .nil,0)::D3):=e2.turn hL (λe=>nomatch e) (.refl _) (Nat.zero_le _) λx hx=>tx x λe=>hx (by rw[e];simp[Tr.ns]);have hP:=uw e2 hq;have MB:(Tr.nd true a i .nil).ino=(Tr.nd false a i .nil).ino.reverse:=rfl
 have hlen:(Tr.nd true a i .nil).ino.length=(Tr.nd false a i .nil).ino.length:=by rw[MB,List.length_reverse]
 have hz:∀x∈(Tr.nd false a i .nil).ino,x≠0:=λx hx=>(e2.nz hq x (Tr.bF.1 hx)).1;obtain⟨f,f1,f2⟩:=U9 (L:=(Tr.nd true a i .nil).ino) (by rw[MB];exact List.pairwise_reverse.2 (hP.imp λh=>h.symm))
 have Gw:∀v p,p≠0→(Lk ((.nd true a i .nil,0)::D3) v p↔Nx (Tr.nd false a i .nil).ino v p∨Lk D3 v p):=λv p hp=>by
  rw[jF,Bl,MB];constructor
  ·rintro((⟨M,_,e⟩ |e) |e)
   ·exact absurd e hp
   ·exact .inl (by simpa using e.rev)
   ·exact .inr e
  ·rintro(e |e)
   ·exact .inl (.inr e.rev)
   ·exact .inr e
 have Gx:∀v p,p≠0→(Lk ((.nd false a i .nil,0)::D3) v p↔Nx (Tr.nd false a i .nil).ino p v∨Lk D3 v p):=λv p hp=>by
  rw[jF,Bl];constructor
  ·rintro((⟨M,_,e⟩ |e) |e)
   ·exact absurd e hp
   ·exact .inl e
   ·exact .inr e
  ·rintro(e |e)
   ·exact .inl (.inr e)
   ·exact .inr e
 refine⟨τ,a,D3,λx=>if x∈(Tr.nd false a i .nil).ino then f x else d x+(Tr.nd false a i .nil).ino.length,⟨ρ,e1,hτ⟩,hD,?_,λv w=>?_,λx=>(tk x).trans (e4 x),?_⟩
 ·intro v p hv hp;simp only
  rcases(Gw v p hp).1 hv with e |⟨q,hq3,e⟩
  ·have hm:=e.mem;rw[if_pos hm.1,if_pos hm.2];refine f1 p v ?_;rw[MB];exact e.rev
  ·have hvq:=Tr.bF.1 (mo e).1
   have NJ:v∉(Tr.nd false a i .nil).ino:=λc=>by
    have:=vX e2.nd hq (List.mem_cons_of_mem _ hq3) (Tr.bF.1 c) hvq;have hn3:=e2.nd;rw[bQ,List.nodup_append] at hn3;exact hn3.2.2 v (Tr.bF.1 c) v (gY.2 ⟨q,hq3,hvq⟩) rfl
   rw[if_neg NJ]
   split
   ·rename_i hpm;have:=f2 p (by rw[MB,List.mem_reverse];exact hpm);rw[hlen] at this;omega
   ·have:=hd2 v p ((Gx v p hp).2 (.inr ⟨q,hq3,e⟩)) hp;omega
 ·rw[←hA2 v w];unfold Ad;have z0:∀v w,Nx (Tr.nd false a i .nil).ino v w→v≠0∧w≠0:=λv w h=>⟨hz v h.mem.1,hz w h.mem.2⟩;constructor
  ·rintro(⟨k,k0⟩ |⟨k,k0⟩)
   ·rcases(Gw v w k0).1 k with e |e
    ·exact .inr ⟨(Gx w v (z0 _ _ e).1).2 (.inl e),(z0 _ _ e).1⟩
    ·exact .inl ⟨(Gx v w k0).2 (.inr e),k0⟩
   ·rcases(Gw w v k0).1 k with e |e
    ·exact .inl ⟨(Gx v w (z0 _ _ e).1).2 (.inl e),(z0 _ _ e).1⟩
    ·exact .inr ⟨(Gx w v k0).2 (.inr e),k0⟩
  ·rintro(⟨k,k0⟩ |⟨k,k0⟩)
   ·rcases(Gx v w k0).1 k with e |e
    ·exact .inr ⟨(Gw w v (z0 _ _ e).2).2 (.inl e),(z0 _ _ e).2⟩
    ·exact .inl ⟨(Gw v w k0).2 (.inr e),k0⟩
   ·rcases(Gx w v k0).1 k with e |e
    ·exact .inl ⟨(Gw v w (z0 _ _ e).2).2 (.inl e),(z0 _ _ e).2⟩
    ·exact .inr ⟨(Gw w v k0).2 (.inr e),k0⟩
 ·refine⟨_,List.mem_cons_self ..,?_⟩;rw[MB,Tr.Eh];simp[kF,Tr.ino]
def Pth (n:Nat) (σ:Sg) (a b:Nat) (τ:Sg):Prop:=∃ρ,WL n σ a ρ∧Exp n ρ b τ
theorem D7 (h:wC n σ A) {a b:Nat} (ha:a≠0) (han:a≤n) (hb:b≠0) (hbn:b≤n) (hr:cZ A a b):
  ∃τ l D3 d M,Pth n σ a b τ∧Dc n τ ((.nd false l b .nil,0)::D3)∧Dp ((.nd false l b .nil,0)::D3) d∧(∀v w,Ad ((.nd false l b .nil,0)::D3) v w↔A v w)∧
   (∀x,(τ x).key=(σ x).key)∧l.ino++[b]=a::M∧Lk ((.nd false l b .nil,0)::D3) a 0:=by
 obtain⟨ρ,x,D3,d,p1,p2,p3,p4,p5,p6⟩:=D8 h ha han;obtain⟨τ,D4,l,f1,f2,f3,f4,f5⟩:=iU p2 p3 hb hbn (cZ (Ad ((.nd true x a .nil,0)::D3)) b) .refl (p2.qV b);have hA:∀v w,Ad ((.nd false l b .nil,0)::D4) v w↔A v w:=λv w=>(Ad.of f3 v w).trans (p4 v w);have hroot:=(f3 a 0).2 p6
 obtain⟨z,M,hz⟩:∃z M,l.ino++[b]=z::M:=by
  cases e:l.ino with
  |nil=>exact⟨b,[],rfl⟩
  |cons z M=>exact⟨z,M++[b],rfl⟩
 have hz0:Lk ((.nd false l b .nil,0)::D4) z 0:=⟨_,List.mem_cons_self ..,by
  show(z,0)∈kF 0 (l.ino++[b])
  rw[hz];simp[kF]⟩
 have hzm:z∈(Tr.nd false l b .nil).ns:=Tr.bF.1 (by show z∈l.ino++[b];rw[hz];simp);obtain rfl:=f2.Du hroot hz0 (((cZ.iff hA).2 hr).trans (f2.nN (q:=(.nd false l b .nil,0)) sj (by simp[Tr.ns]) hzm));exact⟨τ,l,D4,d,M,⟨ρ,p1,f1⟩,f2,p3.of f3,hA,λy=>(f4 y).trans (p5 y),hz,hroot⟩
theorem zG {L:List Nat} {x:Nat} (h:x∈L):∀{y:Nat},L.head?=some y→x≠y→∃v,Nx L v x:=by
 induction L with
 |nil=>simp at h
 |cons z L ih=>
  intro y hy hx
  obtain rfl:z=y:=by simpa using hy
  have h1:=(List.mem_cons.1 h).resolve_left hx
  cases L with
  |nil=>simp at h1
  |cons w L=>
   by_cases c:x=w
   ·subst c;exact⟨z,[],L,rfl⟩
   ·obtain⟨v,hv⟩:=ih h1 rfl c;exact⟨v,hv.cons z⟩
theorem zB {B:Nat→Nat→Prop} {L:List Nat}:∀{a:Nat},(∀v w,Nx (a::L) v w→B v w)→∀b∈a::L,cZ B a b:=by
 induction L with
 |nil=>intro a _ b hb;rw[List.mem_singleton.1 hb];exact .refl
 |cons z L ih=>
  intro a h b hb
  rcases List.mem_cons.1 hb with rfl |hb
  ·exact .refl
  ·exact(cZ.step .refl (h a z ⟨[],L,rfl⟩)).trans (ih (λv w hv=>h v w (hv.cons a)) b hb)
theorem Js (h:wC n σ A) {a b:Nat} (ha:a≠0) (han:a≤n) (hb:b≠0) (hbn:b≤n) (hab:a≠b) (hr:cZ A a b):
  ∃τ L,Pth n σ a b τ∧wC n τ A∧(∀x,(τ x).key=(σ x).key)∧(τ b).sz=(L.length:Nat)∧oL τ L (τ b).fi∧(∀x∈L,x≠0∧x≤n)∧L.length≤n∧a∈L∧b∈L∧(∀x∈L,cZ A a x)∧
   cZ (λv w=>A v w∧v∈L∧w∈L) a b∧(∀x∈L,x≠a→x≠b→¬cZ (λv w=>A v w∧v≠x∧w≠x) a b)∧(L.length=2↔A a b):=by
 obtain⟨τ,l,D3,d,M,p1,p2,p3,p4,p5,p6,p7⟩:=D7 h ha han hb hbn hr;have hq:(Tr.nd false l b .nil,0)∈((.nd false l b .nil,0)::D3:De):=sj;obtain⟨l1,l2,l3,l4,l5,l6,l7,l8,l9⟩:=(p2.lay _ hq).2;have kU:(Tr.nd false l b .nil).ino=a::M:=p6;have hnd:=uw p2 hq
 have hm:∀x,x∈a::M↔x∈(Tr.nd false l b .nil).ns:=λx=>by rw[←kU];exact Tr.bF
 have hlk:∀v w,Nx (a::M) v w→Lk ((.nd false l b .nil,0)::D3) w v:=λv w e=>⟨_,hq,Bl.2 (.inr (by rw[kU];exact e))⟩;have hnz:∀x∈a::M,x≠0∧x≤n:=λx hx=>p2.nz hq x ((hm x).1 hx);have hA:∀v w,Nx (a::M) v w→A v w:=λv w e=>(p4 v w).1 (.inr ⟨hlk v w e,(hnz v e.mem.1).1⟩);have hbm:b∈a::M:=(hm b).2 (by simp[Tr.ns])
 have hlast:(a::M).getLast?=some b:=by rw[←p6];simp
 have hlen:(Tr.nd false l b .nil).ns.length=(a::M).length:=by rw[←kU];exact(Tr.Bq _).symm
 have VP:(a::M).Nodup:=kU▸hnd;refine⟨τ,a::M,p1,⟨_,d,p2,p3,p4⟩,p5,by rw[l6,hlen],l7.perm λx=>(hm x).symm,hnz,qN VP hnz,sj,hbm,λx hx=>zB hA x hx,?_,?_,?_⟩
 ·exact zB (λv w e=>⟨hA v w e,e.mem⟩) b hbm
 ·intro x hx hxa hxb hR;have sub:∀v w,A v w∧v≠x∧w≠x→A w v∧w≠x∧v≠x:=λv w ⟨e,e1,e2⟩=>⟨wC.symm ⟨_,d,p2,p3,p4⟩ e,e2,e1⟩
  have hub:∀(K:List Nat) (y:Nat),(∀v w,Nx (y::K) v w→Lk ((.nd false l b .nil,0)::D3) w v)→(∀z∈y::K,z≠0)→∀z∈y::K,Up ((.nd false l b .nil,0)::D3) z y:=by
   intro K
   induction K with
   |nil=>intro y _ _ z hz;rw[List.mem_singleton.1 hz];exact .refl
   |cons k K ih=>
    intro y h1 h2 z hz
    rcases List.mem_cons.1 hz with rfl |hz
    ·exact .refl
    ·exact .step (ih k (λv w e=>h1 v w (e.cons y)) (λz hz=>h2 z (by simp[hz])) z hz) (h1 y k ⟨[],K,rfl⟩) (h2 y sj)
  have hbx:Up ((.nd false l b .nil,0)::D3) b x:=by
   obtain⟨S,T,e⟩:=List.append_of_mem hx
   have hbT:b∈x::T:=by
    have h9:=hlast;rw[e,List.getLast?_append] at h9
    have h10:(x::T).getLast?=some b:=by
     cases h11:(x::T).getLast? with
     |none=>simp at h11
     |some q=>rw[h11] at h9;simpa using h9
    exact List.mem_of_getLast? h10
   exact hub T x (λv w ⟨P,Q,e2⟩=>hlk v w ⟨S++P,Q,by rw[e,e2,List.append_assoc]⟩) (λz hz=>(hnz z (by rw[e];simp only[List.mem_append];exact .inr hz)).1) b hbT
  have hgo:∀{c:Nat},cZ (λv w=>A v w∧v≠x∧w≠x) b c→Up ((.nd false l b .nil,0)::D3) c x∧c≠x:=by
   intro c hc
   induction hc with
   |refl=>exact⟨hbx,λe=>hxb e.symm⟩
   |@step y z _ e ih=>
    obtain⟨e1,e2,e3⟩:=e;refine⟨?_,e3⟩
    rcases(p4 y z).2 e1 with⟨k,k0⟩ |⟨k,k0⟩
    ·exact(Up.IW p2 ih.1 k ih.2).2
    ·exact Up.cons k k0 ih.1
  obtain⟨h5,h6⟩:=hgo (hR.symm sub)
  rcases h5.head with e |⟨w,e1,e2,_⟩
  ·exact h6 e
  ·exact e2 (p2.one e1 p7)
 ·constructor
  ·intro h2
   match M,h2 with
   |[y],_=>
    obtain rfl:y=b:=by simpa using hlast
    exact hA _ _ ⟨[],[],rfl⟩
  ·intro ais;obtain⟨v,hv⟩:=zG hbm (y:=a) rfl (λe=>hab e.symm);have hlb:=hlk v b hv
   have hva:v=a:=by
    rcases(p4 a b).2 ais with⟨k,k0⟩ |⟨k,k0⟩
    ·exact absurd (p2.one k p7) hb
    ·exact p2.one hlb k
   subst hva;obtain⟨P,Q,e⟩:=hv
   have hP:P=[]:=by
    cases P with
    |nil=>rfl
    |cons z P=>
     rw[List.cons_append] at e;obtain⟨e1,e2⟩:=List.cons.inj e;have:=(List.nodup_cons.1 VP).1;rw[e2] at this;simp at this
   subst hP
   have hQ:Q=[]:=by
    rw[List.nil_append] at e;rw[e] at hlast VP
    cases Q with
    |nil=>rfl
    |cons z Q=>
     rw[List.getLast?_cons_cons,List.getLast?_cons_cons] at hlast;have hbq:b∈z::Q:=List.mem_of_getLast? hlast;exact absurd hbq (List.nodup_cons.1 (List.nodup_cons.1 VP).2).1
   subst hQ;rw[e];rfl
end
section
variable {n:Nat} {σ:Sg} {A:Nat→Nat→Prop}
def Vk (σ:Sg) (a b:Nat):Sg:=dM (σ.put a { σ a with up:=b }) b
theorem QK (h:wC n σ A) {a b:Nat} (ha:a≠0) (han:a≤n) (hb:b≠0) (hbn:b≤n) (hab:a≠b) (hr:¬cZ A a b):
  ∃τ ρ,WL n σ a τ∧Exp n τ b ρ∧kN n (ρ.put a { ρ a with up:=b }) b∧(∀x,(Vk ρ a b x).key=(σ x).key)∧wC n (Vk ρ a b) (λv w=>A v w∨v=a∧w=b∨v=b∧w=a):=by
 obtain⟨τ,x,D3,d,p1,p2,p3,p4,p5,p6⟩:=D8 h ha han;obtain⟨ρ,D4,y,f1,f2,f3,f4,f5⟩:=iU p2 p3 hb hbn (cZ (Ad ((.nd true x a .nil,0)::D3)) b) .refl (p2.qV b);have hA:∀v w,Ad ((.nd false y b .nil,0)::D4) v w↔A v w:=λv w=>(Ad.of f3 v w).trans (p4 v w);have hd2:=p3.of f3;have hm:=f5 (.nd true x a .nil,0) sj λz hz hc=>hr (((cZ.iff p4).1 (hc.trans (p2.nN (q:=(.nd true x a .nil,0)) sj hz (by simp[Tr.ns])))).symm λv w=>h.symm);obtain⟨D5,hp⟩:=Ji hm;have hp2:((.nd false y b .nil,0)::D4:De).Perm ((.nd true x a .nil,0)::(.nd false y b .nil,0)::D5):=(hp.cons _).trans (List.Perm.swap ..);have g:=f2.perm hp2;have hlk:∀v p,Lk ((.nd false y b .nil,0)::D4) v p↔Lk ((.nd true x a .nil,0)::(.nd false y b .nil,0)::D5) v p:=Lk.perm hp2;have hnd:=g.nd;rw[bQ,bQ,List.nodup_append] at hnd;obtain⟨n1,n2,n3⟩:=hnd;obtain⟨n4,n5,n6⟩:=List.nodup_append.1 n2;have hba:b∉(Tr.nd true x a .nil).ns:=λc=>n3 b c b (by simp[Tr.ns]) rfl;have hLa:=(g.lay (.nd true x a .nil,0) sj).2;obtain⟨σ1,yP⟩:∃s:Sg,s=ρ.put a { ρ a with up:=b }:=⟨_,rfl⟩
 have s1a:σ1 a={ ρ a with up:=b }:=by rw[yP,Sg.put_eq]
 have s1x:∀z,z≠a→σ1 z=ρ z:=λz hz=>by rw[yP,Sg.bE _ _ hz]
 have L1:Lay σ1 (.nd true x a .nil) b:=hLa.Jw (λz _ hz=>s1x z hz) n1 λ_=>s1a;have g1:Dc n σ1 ((.nd true x a .nil,b)::(.nd false y b .nil,0)::D5):=g.turn L1 (λe=>nomatch e) (.refl _) hbn λz hz=>s1x z λe=>hz (by rw[e];simp[Tr.ns]);have g2:=g1.perm (List.Perm.swap ..);obtain⟨l1,l2,l3,l4,l5,l6,l7,l8,l9⟩:=(g2.lay (.nd false y b .nil,0) sj).2;have n4':(y.ns++[b]).Nodup:=n4;rw[List.nodup_append] at n4';have hby:b∉y.ns:=λc=>n4'.2.2 b c b sj rfl;obtain⟨R,L2⟩:=lK (n:=n) (σ:=σ1) (s:=false) (x:=y) (y:=.nil) (v:=b) (p:=0) l1 hbn l2 l3 l4 l5 l8 trivial n4'.1 List.nodup_nil hby (λc=>nomatch c) (λz hz=>(g2.nz (q:=(.nd false y b .nil,0)) sj z (by simp[Tr.ns,hz])).2) (λz hz=>nomatch hz);have g3:Dc n (dM σ1 b) ((.nd false y b .nil,0)::(.nd true x a .nil,b)::D5):=g2.turn L2 (λe=>nomatch e) (.refl _) (Nat.zero_le _) λz hz=>eX λe=>hz (by rw[e];simp[Tr.ns])
 have hfin:Vk ρ a b=dM σ1 b:=by unfold Vk;rw[yP]
 obtain⟨M,hM⟩:∃M,(Tr.nd true x a .nil).ino=a::M:=⟨x.ino.reverse,by simp[Tr.ino]⟩
 have hl1:∀v p,Lk ((.nd false y b .nil,0)::(.nd true x a .nil,b)::D5) v p↔(v=a∧p=b)∨(v,p)∈kF a M∨Lk ((.nd false y b .nil,0)::D5) v p:=λv p=>by
  rw[Lk.perm (List.Perm.swap ..),jF];show(v,p)∈kF b (Tr.nd true x a .nil).ino∨_↔_;rw[hM,kF,List.mem_cons,Prod.mk.injEq,or_assoc]
 have hl0:∀v p,Lk ((.nd false y b .nil,0)::D4) v p↔(v=a∧p=0)∨(v,p)∈kF a M∨Lk ((.nd false y b .nil,0)::D5) v p:=λv p=>by
  rw[hlk,jF];show(v,p)∈kF 0 (Tr.nd true x a .nil).ino∨_↔_;rw[hM,kF,List.mem_cons,Prod.mk.injEq,or_assoc]
 have hAd:∀v w,Ad ((.nd false y b .nil,0)::(.nd true x a .nil,b)::D5) v w↔(A v w∨v=a∧w=b∨v=b∧w=a):=λv w=>by
  rw[←hA];unfold Ad;rw[hl1,hl1,hl0,hl0];constructor
  ·rintro(⟨e |e,h0⟩ |⟨e |e,h0⟩)
   ·exact .inr (.inl e)
   ·exact .inl (.inl ⟨.inr e,h0⟩)
   ·exact .inr (.inr ⟨e.2,e.1⟩)
   ·exact .inl (.inr ⟨.inr e,h0⟩)
  ·rintro((⟨e |e,h0⟩ |⟨e |e,h0⟩) |e |e)
   ·exact absurd e.2 h0
   ·exact .inl ⟨.inr e,h0⟩
   ·exact absurd e.2 h0
   ·exact .inr ⟨.inr e,h0⟩
   ·exact .inl ⟨.inl e,by rw[e.2];exact hb⟩
   ·exact .inr ⟨.inl ⟨e.2,e.1⟩,by rw[e.1];exact hb⟩
 refine⟨τ,ρ,p1,f1,by rw[←yP];exact R,λz=>?_,⟨(.nd false y b .nil,0)::(.nd true x a .nil,b)::D5,λv=>@ite Nat (cZ A a v) (Classical.propDecidable _) (d v+d b+1) (d v),by rw[hfin];exact g3,?_,hAd⟩⟩
 ·rw[hfin,jl]
  by_cases c:z=a
  ·rw[c,s1a];exact(f4 a).trans (p5 a)
  ·rw[s1x z c];exact(f4 z).trans (p5 z)
 ·intro v p hv hp;simp only;have hbr:¬cZ A a b:=hr
  rcases(hl1 v p).1 hv with⟨rfl,rfl⟩ |e
  ·rw[if_neg hbr,if_pos .refl];omega
  ·have hv0:Lk ((.nd false y b .nil,0)::D4) v p:=(hl0 v p).2 (.inr e);have h1:=hd2 v p hv0 hp;have hvp:A v p:=(hA v p).1 (.inl ⟨hv0,hp⟩)
   by_cases c:cZ A a v
   ·rw[if_pos c,if_pos (.step c hvp)];omega
   ·rw[if_neg c,if_neg λe=>c (.step e (h.symm hvp))];exact h1
def Wn (σ:Sg) (a b:Nat):Sg:=dM ((σ.put a { σ a with up:=0 }).put b { (σ.put a { σ a with up:=0 }) b with k0:=0 }) b
theorem Vp (h:wC n σ A) {a b:Nat} (hab:a≠b) (he:A a b):
  ∃τ,Pth n σ a b τ∧kN n ((τ.put a { τ a with up:=0 }).put b { (τ.put a { τ a with up:=0 }) b with k0:=0 }) b∧(∀x,(Wn τ a b x).key=(σ x).key)∧wC n (Wn τ a b) (λv w=>A v w∧¬(v=a∧w=b)∧¬(v=b∧w=a)):=by
 obtain⟨ha,han,hb,hbn⟩:=h.in he;obtain⟨τ,l,D3,d,M,p1,p2,p3,p4,p5,p6,p7⟩:=D7 h ha han hb hbn (.step .refl he);have hq:(Tr.nd false l b .nil,0)∈((.nd false l b .nil,0)::D3:De):=sj;obtain⟨l1,l2,l3,l4,l5,l6,l7,l8,l9⟩:=(p2.lay _ hq).2;have VQ:=uw p2 hq;have kU:(Tr.nd false l b .nil).ino=a::M:=p6
 have hM:l.ino=[a]:=by
  have hbm:b∈a::M:=by rw[←p6];simp
  obtain⟨v,hv⟩:=zG hbm (y:=a) rfl (λe=>hab e.symm);have hlb:Lk ((.nd false l b .nil,0)::D3) b v:=⟨_,hq,Bl.2 (.inr (by rw[kU];exact hv))⟩
  have hva:v=a:=by
   rcases(p4 a b).2 he with⟨k,k0⟩ |⟨k,k0⟩
   ·exact absurd (p2.one k p7) hb
   ·exact p2.one hlb k
  subst hva;rw[kU] at VQ;obtain⟨P,Q,e⟩:=hv
  have hP:P=[]:=by
   cases P with
   |nil=>rfl
   |cons z P=>
    rw[List.cons_append] at e;obtain⟨e1,e2⟩:=List.cons.inj e;have:=(List.nodup_cons.1 VQ).1;rw[e2] at this;simp at this
  subst hP;rw[List.nil_append] at e
  have hl2:(v::M).getLast?=some b:=by rw[←p6];simp
  cases Q with
  |nil=>
   have:l.ino++[b]=[v]++[b]:=by rw[p6,e];rfl
   exact List.append_cancel_right this
  |cons z Q=>
   rw[e] at hl2 VQ;rw[List.getLast?_cons_cons,List.getLast?_cons_cons] at hl2;have hbq:b∈z::Q:=List.mem_of_getLast? hl2;exact absurd hbq (List.nodup_cons.1 (List.nodup_cons.1 VQ).2).1
 obtain⟨f,rfl⟩:∃f,l=.nd f .nil a .nil:=by
  have hlen:l.ns.length=1:=by rw[←Tr.Bq,hM];rfl
  cases l with
  |nil=>simp[Tr.ns] at hlen
  |nd f x z y=>
   rw[Tr.ns,List.length_append,List.length_cons] at hlen
   have hx:x=.nil:=by
    cases x with
    |nil=>rfl
    |nd=>simp[Tr.ns] at hlen;omega
   have hy:y=.nil:=by
    cases y with
    |nil=>rfl
    |nd=>simp[Tr.ns] at hlen;omega
   subst hx;subst hy
   have:z=a:=by cases f<;>simpa [Tr.ino] using hM
   subst this;exact⟨f,rfl⟩
 obtain⟨m1,m2,m3,m4,m5,m6,m7,_,_⟩:=l8;obtain⟨ρ,hρ⟩:∃s:Sg,s=(τ.put a { τ a with up:=0 }).put b { (τ.put a { τ a with up:=0 }) b with k0:=0 }:=⟨_,rfl⟩;have hba:b≠a:=λe=>hab e.symm
 have rb:ρ b={ τ b with k0:=0 }:=by rw[hρ,Sg.put_eq,Sg.bE _ _ hba]
 have ra:ρ a={ τ a with up:=0 }:=by rw[hρ,Sg.bE _ _ hab,Sg.put_eq]
 have rx:∀x,x≠a→x≠b→ρ x=τ x:=λx h1 h2=>by rw[hρ,Sg.bE _ _ h2,Sg.bE _ _ h1]
 have rk:∀x,(ρ x).key=(τ x).key:=λx=>by
  by_cases c:x=b
  ·rw[c,rb]
  ·by_cases c2:x=a
   ·rw[c2,ra]
   ·rw[rx x c2 c]
 obtain⟨R,L2⟩:=lK (n:=n) (σ:=ρ) (s:=false) (x:=.nil) (y:=.nil) (v:=b) (p:=0) hb hbn (by rw[rb];rfl) (by rw[rb];exact l3) (by rw[rb];exact l4) (by rw[rb];exact l5) trivial trivial List.nodup_nil List.nodup_nil (λc=>nomatch c) (λc=>nomatch c) (λz hz=>nomatch hz) (λz hz=>nomatch hz);have eb:∀x,x≠b→dM ρ b x=ρ x:=λx hx=>eX hx
 have La:Lay (dM ρ b) (.nd f .nil a .nil) 0:=by
  refine⟨m1,by rw[eb a hab,ra,←m2],by rw[eb a hab,ra,←m3],by rw[eb a hab,ra,←m4],by rw[eb a hab,ra],by rw[eb a hab,ra];exact m6,?_,trivial,trivial⟩;rw[eb a hab,ra];exact oL.keys (σ:=τ) m7 λx _=>(jl ρ b x).trans (rk x)
 have hnd:=p2.nd;rw[bQ] at hnd;have VR:([a]++b::[]++vJ D3).Nodup:=hnd
 have hall:∀x,x∈[a]++b::[]++vJ D3↔x≠0∧x≤n:=λx=>by have:=p2.all x;rw[bQ] at this;exact this
 have hnot:∀q∈D3,∀x∈q.1.ns,x≠a∧x≠b:=λq hq3 x hx=>by
  have hx2:x∈vJ D3:=gY.2 ⟨q,hq3,hx⟩;rw[List.nodup_append] at VR;exact⟨λe=>VR.2.2 a sj x hx2 e.symm,λe=>VR.2.2 b sj x hx2 e.symm⟩
 have hpp:(vJ ((.nd false .nil b .nil,0)::(.nd f .nil a .nil,0)::D3)).Perm ([a]++b::[]++vJ D3):=by
  rw[bQ,bQ];exact List.Perm.swap ..
 have g:Dc n (dM ρ b) ((.nd false .nil b .nil,0)::(.nd f .nil a .nil,0)::D3):=by
  refine⟨λq hq3=>?_,hpp.nodup_iff.2 VR,λv=>by rw[hpp.mem_iff];exact hall v,λq hq3=>?_⟩
  ·rcases List.mem_cons.1 hq3 with rfl |hq3
   ·exact⟨λe=>(nomatch e),L2⟩
   ·rcases List.mem_cons.1 hq3 with rfl |hq3
    ·exact⟨λe=>(nomatch e),La⟩
    ·obtain⟨k1,k2⟩:=p2.lay q (by simp[hq3]);exact⟨k1,k2.keep λx hx=>by rw[eb x (hnot q hq3 x hx).2,rx x (hnot q hq3 x hx).1 (hnot q hq3 x hx).2]⟩
  ·rcases List.mem_cons.1 hq3 with rfl |hq3
   ·exact Nat.zero_le _
   ·rcases List.mem_cons.1 hq3 with rfl |hq3
    ·exact Nat.zero_le _
    ·exact p2.TG q (by simp[hq3])
 have hia:(Tr.nd f .nil a .nil).ino=[a]:=by cases f<;>rfl
 have hl1:∀v p,p≠0→(Lk ((.nd false .nil b .nil,0)::(.nd f .nil a .nil,0)::D3) v p↔Lk D3 v p):=λv p hp=>by
  rw[jF,jF,hia];show(v,p)∈kF 0 [b]∨(v,p)∈kF 0 [a]∨_↔_;simp[kF,hp]
 have hl0:∀v p,p≠0→(Lk ((.nd false (.nd f .nil a .nil) b .nil,0)::D3) v p↔(v=b∧p=a)∨Lk D3 v p):=λv p hp=>by
  rw[jF,kU]
  have hMb:M=[b]:=by rw[hM] at p6;exact(List.cons.inj p6).2.symm
  rw[hMb];simp[kF,hp]
 have hnl:∀{v p},Lk D3 v p→v≠a∧v≠b:=fun{v p} ⟨q,hq3,e⟩=>hnot q hq3 v (Tr.bF.1 (mo e).1);refine⟨τ,p1,by rw[←hρ];exact R,λx=>?_,_,d,by unfold Wn;rw[←hρ];exact g,λv p hv hp=>p3 v p ((hl0 v p hp).2 (.inr ((hl1 v p hp).1 hv))) hp,λv w=>?_⟩
 ·unfold Wn;rw[←hρ,jl];exact(rk x).trans (p5 x)
 ·show Ad _ v w↔(A v w∧¬(v=a∧w=b)∧¬(v=b∧w=a));rw[←p4];unfold Ad;constructor
  ·rintro(⟨k,k0⟩ |⟨k,k0⟩)
   ·have k':=(hl1 v w k0).1 k;have k2:=hnl k';exact⟨.inl ⟨(hl0 v w k0).2 (.inr k'),k0⟩,λe=>k2.1 e.1,λe=>k2.2 e.1⟩
   ·have k':=(hl1 w v k0).1 k;have k2:=hnl k';exact⟨.inr ⟨(hl0 w v k0).2 (.inr k'),k0⟩,λe=>k2.2 e.2,λe=>k2.1 e.2⟩
  ·rintro⟨⟨k,k0⟩ |⟨k,k0⟩,h1,h2⟩
   ·rcases(hl0 v w k0).1 k with e |e
    ·exact absurd e h2
    ·exact .inl ⟨(hl1 v w k0).2 e,k0⟩
   ·rcases(hl0 w v k0).1 k with e |e
    ·exact absurd ⟨e.2,e.1⟩ h1
    ·exact .inr ⟨(hl1 w v k0).2 e,k0⟩
def UE (σ:Sg) (i:Nat) (k:Int):Sg:=dM (σ.put i { σ i with key:=k }) i
theorem Vo (h:wC n σ A) {i:Nat} (h0:i≠0) (hn:i≤n) (k:Int):
  ∃τ,Exp n σ i τ∧kN n (τ.put i { τ i with key:=k }) i∧(∀x,(UE τ i k x).key=if x=i then k else(σ x).key)∧wC n (UE τ i k) A:=by
 obtain⟨D,d,h1,h2,h3⟩:=h;obtain⟨τ,D3,a,e1,e2,e3,e4,_⟩:=iU h1 h2 h0 hn (cZ (Ad D) i) .refl (h1.qV i);have hq:(Tr.nd false a i .nil,0)∈((.nd false a i .nil,0)::D3:De):=sj;obtain⟨l1,l2,l3,l4,l5,l6,l7,l8,l9⟩:=(e2.lay _ hq).2;obtain⟨ρ,hρ⟩:∃s:Sg,s=τ.put i { τ i with key:=k }:=⟨_,rfl⟩
 have ri:ρ i={ τ i with key:=k }:=by rw[hρ,Sg.put_eq]
 have rx:∀x,x≠i→ρ x=τ x:=λx hx=>by rw[hρ,Sg.bE _ _ hx]
 have hnd:=oP e2.nd hq;have uJ:(a.ns++[i]).Nodup:=hnd;rw[List.nodup_append] at uJ;have hia:i∉a.ns:=λc=>uJ.2.2 i c i sj rfl;obtain⟨R,L⟩:=lK (n:=n) (σ:=ρ) (s:=false) (x:=a) (y:=.nil) (v:=i) (p:=0) h0 hn (by rw[ri];exact l2) (by rw[ri];exact l3) (by rw[ri];exact l4) (by rw[ri];exact l5) (l8.keep λx hx=>rx x λe=>hia (e▸hx)) trivial uJ.1 List.nodup_nil hia (λc=>nomatch c) (λz hz=>(e2.nz hq z (by simp[Tr.ns,hz])).2) (λz hz=>nomatch hz)
 have g:Dc n (dM ρ i) ((.nd false a i .nil,0)::D3):=e2.turn L (λe=>nomatch e) (.refl _) (Nat.zero_le _) λx hx=>by
  have hxi:x≠i:=λe=>hx (by rw[e];simp[Tr.ns]);rw[eX hxi,rx x hxi]
 refine⟨τ,e1,by rw[←hρ];exact R,λx=>?_,_,d,by unfold UE;rw[←hρ];exact g,h2.of e3,λv w=>(Ad.of e3 v w).trans (h3 v w)⟩;unfold UE;rw[←hρ,jl]
 split
 ·rename_i c;rw[c,ri]
 ·rename_i c;rw[rx x c,e4]
end
def sg0:Sg:=λi=>⟨0,0,0,false,0,if i=0 then 0 else 1,i⟩
theorem QI (n:Nat):wC n sg0 (λ_ _=>False):=by
 refine⟨(List.range n).map λi=>(.nd false .nil (i+1) .nil,0),λ_=>0,⟨λq hq=>?_,?_,λv=>?_,λq hq=>?_⟩,λv p hv hp=>?_,λv w=>⟨λh=>?_,False.elim⟩⟩
 ·obtain⟨i,_,rfl⟩:=List.mem_map.1 hq;exact⟨λe=>(nomatch e),Nat.succ_ne_zero i,rfl,rfl,rfl,rfl,by simp[sg0,Tr.ns],oL.one _ _,trivial,trivial⟩
 ·have:vJ ((List.range n).map λi=>(Tr.nd false .nil (i+1) .nil,0))=(List.range n).map (·+1):=by
   unfold vJ;rw[List.flatMap_map];show(List.range n).flatMap (λi=>[i+1])=_;generalize List.range n=L
   induction L with
   |nil=>rfl
   |cons x L ih=>rw[List.flatMap_cons,ih];rfl
  rw[this];exact List.Pairwise.map _ (λa b hab e=>hab om) List.nodup_range
 ·rw[gY];constructor
  ·rintro⟨q,hq,hv⟩;obtain⟨i,hi,rfl⟩:=List.mem_map.1 hq
   have:v=i+1:=by simpa [Tr.ns] using hv
   have:=List.mem_range.1 hi;omega
  ·rintro⟨h0,hn⟩;exact⟨_,List.mem_map.2 ⟨v-1,List.mem_range.2 om,rfl⟩,by simp[Tr.ns];omega⟩
 ·obtain⟨i,_,rfl⟩:=List.mem_map.1 hq;exact Nat.zero_le _
 ·obtain⟨q,hq,e⟩:=hv;obtain⟨i,_,rfl⟩:=List.mem_map.1 hq
  have:v=i+1∧p=0:=by simpa [kF,Tr.ino] using e
  exact absurd this.2 hp
 ·have key:∀v w,Lk ((List.range n).map λi=>(Tr.nd false .nil (i+1) .nil,0)) v w→w=0:=λv w hv=>by
   obtain⟨q,hq,e⟩:=hv;obtain⟨i,_,rfl⟩:=List.mem_map.1 hq
   have:v=i+1∧w=0:=by simpa [kF,Tr.ino] using e
   exact this.2
  rcases h with⟨k,k0⟩ |⟨k,k0⟩
  ·exact k0 (key _ _ k)
  ·exact k0 (key _ _ k)
structure Fs where
 lv:Nat→Bool
 a:Nat→Nat
 b:Nat→Nat
 x:Nat→Int
 t:Nat→Bool
def LnF (f:Fs) (T:Nat→Prop) (v w:Nat):Prop:=∃s,T s∧(f.a s=v∧f.b s=w∨f.a s=w∧f.b s=v)
def Ct (f:Fs) (T:Nat→Prop) (v w:Nat):Prop:=cZ (LnF f T) v w
def Fs.bf (f:Fs) (s t:Nat):Prop:=f.x s<f.x t∨f.x s=f.x t∧s<t
theorem LnF.symm {f:Fs} {T:Nat→Prop} {v w:Nat} (h:LnF f T v w):LnF f T w v:=by
 obtain⟨s,h1,h2⟩:=h;exact⟨s,h1,h2.symm⟩
theorem Ct.symm {f:Fs} {T:Nat→Prop} {v w:Nat} (h:Ct f T v w):Ct f T w v:=cZ.symm (λ_ _=>LnF.symm) h
theorem Ct.mono {f g:Fs} {T U:Nat→Prop} (h:∀s,T s→U s∧g.a s=f.a s∧g.b s=f.b s) {v w:Nat} (k:Ct f T v w):Ct g U v w:=
 cZ.mono (λv w ⟨s,h1,h2⟩=>⟨s,(h s h1).1,by rw[(h s h1).2.1,(h s h1).2.2];exact h2⟩) k
theorem Ct.sub {f g:Fs} {T U:Nat→Prop} (h:∀s,T s→Ct g U (f.a s) (f.b s)) {v w:Nat} (k:Ct f T v w):Ct g U v w:=by
 induction k with
 |refl=>exact .refl
 |@step x y _ e ih=>
  obtain⟨s,h1,⟨e1,e2⟩ |⟨e1,e2⟩⟩:=e
  ·exact ih.trans (e1▸e2▸h s h1)
  ·exact ih.trans (e1▸e2▸(h s h1).symm)
theorem Ct.one {f:Fs} {T:Nat→Prop} {s:Nat} (h:T s):Ct f T (f.a s) (f.b s):=.step .refl ⟨s,h,.inl ⟨rfl,rfl⟩⟩
def tQ (S:Nat) (f:Fs) (x y:Nat):Prop:=∃s,f.t s=true∧(x=s+1∧(y=S+f.a s+1∨y=S+f.b s+1)∨y=s+1∧(x=S+f.a s+1∨x=S+f.b s+1))
structure gM (S V:Nat) (f:Fs):Prop where
 ends:∀s,f.lv s=true→s<S∧f.a s<V∧f.b s<V∧f.a s≠f.b s
 tl:∀s,f.t s=true→f.lv s=true
 span:∀s,f.lv s=true→Ct f (λr=>f.t r=true∧(r=s∨f.bf s r)) (f.a s) (f.b s)
section
variable {S V:Nat} {f:Fs}
theorem gM.to (h:gM S V f) {Q:Nat→Prop} {a:Nat}:∀{x:Nat},cZ (λv w=>tQ S f v w∧Q v∧Q w) (S+a+1) x→
  (∀v,x=S+v+1→Ct f (λs=>f.t s=true∧Q (s+1)) a v)∧(∀s<S,x=s+1→Ct f (λs=>f.t s=true∧Q (s+1)) a (f.a s)∧f.t s=true):=by
 intro x hx
 induction hx with
 |refl=>exact⟨λv e=>(show a=v by omega)▸.refl,λs hs e=>om⟩
 |@step y z _ e ih=>
  obtain⟨⟨s,ht,e⟩,q1,q2⟩:=e;have hs:=h.ends s (h.tl s ht)
  rcases e with⟨rfl,e⟩ |⟨rfl,e⟩
  ·obtain⟨h1,_⟩:=ih.2 s hs.1 rfl;have h2:Ct f (λs=>f.t s=true∧Q (s+1)) a (f.b s):=h1.trans (Ct.one (f:=f) (T:=λs=>f.t s=true∧Q (s+1)) ⟨ht,q1⟩);refine⟨λv e2=>?_,λr hr e2=>om⟩
   rcases e with e |e
   ·obtain rfl:f.a s=v:=om;exact h1
   ·obtain rfl:f.b s=v:=om;exact h2
  ·refine⟨λv e2=>om,λr hr e2=>?_⟩;obtain rfl:s=r:=om
   rcases e with e |e
   ·exact⟨ih.1 _ e,ht⟩
   ·exact⟨(ih.1 _ e).trans (Ct.symm (Ct.one (f:=f) (T:=λs=>f.t s=true∧Q (s+1)) ⟨ht,q2⟩)),ht⟩
theorem XG {P Q:Nat→Prop} (hQ:∀v,Q (S+v+1)) (hP:∀s,f.t s=true→P s→Q (s+1)) {a b:Nat} (h:Ct f (λs=>f.t s=true∧P s) a b):
  cZ (λv w=>tQ S f v w∧Q v∧Q w) (S+a+1) (S+b+1):=by
 induction h with
 |refl=>exact .refl
 |@step x y _ e ih=>
  obtain⟨s,⟨h1,h2⟩,e⟩:=e;have q:=hP s h1 h2
  have go:∀v w,(f.a s=v∧f.b s=w∨f.a s=w∧f.b s=v)→cZ (λv w=>tQ S f v w∧Q v∧Q w) (S+v+1) (S+w+1):=λv w e=>by
   refine cZ.step (b:=s+1) (cZ.step .refl ⟨⟨s,h1,.inr ⟨rfl,?_⟩⟩,hQ v,q⟩) ⟨⟨s,h1,.inl ⟨rfl,?_⟩⟩,q,hQ w⟩
   ·rcases e with⟨rfl,_⟩ |⟨_,rfl⟩
    ·exact .inl rfl
    ·exact .inr rfl
   ·rcases e with⟨_,rfl⟩ |⟨rfl,_⟩
    ·exact .inr rfl
    ·exact .inl rfl
  exact ih.trans (go x y e)
theorem gM.conn (h:gM S V f) (a b:Nat):cZ (tQ S f) (S+a+1) (S+b+1)↔Ct f (λs=>f.lv s=true) a b:=by
 constructor
 ·intro k;have k2:=(h.to (Q:=λ_=>True) (k.mono λv w e=>⟨e,trivial,trivial⟩)).1 b rfl;exact k2.mono λs e=>⟨h.tl s e.1,rfl,rfl⟩
 ·intro k;have k2:Ct f (λs=>f.t s=true∧True) a b:=Ct.sub (f:=f) (T:=λs=>f.lv s=true) (λs hs=>(h.span s hs).mono λr e=>⟨⟨e.1,trivial⟩,rfl,rfl⟩) k;exact(XG (S:=S) (Q:=λ_=>True) (λ_=>trivial) (λ_ _ _=>trivial) k2).mono λv w e=>e.1
theorem gM.first (h:gM S V f) {σ:Sg} {a b m:Nat} {L:List Nat} (M:Int) (hab:a≠b) (hkv:∀v<V,(σ (S+v+1)).key=M) (hkt:∀s,f.t s=true→(σ (s+1)).key=f.x s) (hM:∀s,f.t s=true→f.x s≤M)
  (hF:oL σ L m) (hL:∀x∈L,x≠0∧x≤S+V) (hR:cZ (λv w=>tQ S f v w∧v∈L∧w∈L) (S+a+1) (S+b+1)) (hr:∀x∈L,cZ (tQ S f) (S+a+1) x)
  (hs:∀x∈L,x≠S+a+1→x≠S+b+1→¬cZ (λv w=>tQ S f v w∧v≠x∧w≠x) (S+a+1) (S+b+1)):
  ∃s,m=s+1∧f.t s=true∧Ct f (λr=>f.t r=true∧(r=s∨f.bf s r)) a b∧¬Ct f (λr=>f.t r=true∧r≠s) a b:=by
 have slot:∀x∈L,x≤S→∃s,x=s+1∧f.t s=true:=λx hx hS=>by
  have h0:=(hL x hx).1;exact⟨x-1,om,((h.to (Q:=λ_=>True) ((hr x hx).mono λv w e=>⟨e,trivial,trivial⟩)).2 (x-1) om om).2⟩
 have hex:∃s,s+1∈L∧f.t s=true:=by
  have key:∀{x:Nat},cZ (λv w=>tQ S f v w∧v∈L∧w∈L) (S+a+1) x→x=S+a+1∨∃s,s+1∈L∧f.t s=true:=by
   intro x hx
   induction hx with
   |refl=>exact .inl rfl
   |step _ e ih=>
    obtain⟨⟨s,ht,e⟩,q1,q2⟩:=e
    rcases e with⟨rfl,_⟩ |⟨rfl,_⟩
    ·exact .inr ⟨s,q1,ht⟩
    ·exact .inr ⟨s,q2,ht⟩
  rcases key hR with e |e
  ·omega
  ·exact e
 have hmS:m≤S:=by
  obtain⟨s,hs1,hs2⟩:=hex;have hss:=(h.ends s (h.tl s hs2)).1;apply Classical.byContradiction;intro hc;have hm:=hL m hF.1;have hmk:=hkv (m-S-1) om;rw[show S+(m-S-1)+1=m by omega] at hmk
  rcases hF.2 _ hs1 with e |e
  ·omega
  ·have h1:=hkt s hs2;have h2:=hM s hs2;unfold Bf at e;omega
 obtain⟨s,rfl,ht⟩:=slot m hF.1 hmS;refine⟨s,rfl,ht,?_,?_⟩
 ·refine((h.to (Q:=λx=>x∈L) hR).1 b rfl).mono λr e=>⟨⟨e.1,?_⟩,rfl,rfl⟩
  rcases hF.2 _ e.2 with k |k
  ·exact .inl om
  ·right
   unfold Bf at k;rw[hkt s ht,hkt r e.1] at k;unfold Fs.bf;omega
 ·intro k;exact hs (s+1) hF.1 om om (XG (S:=S) (Q:=λx=>x≠s+1) (λv=>oC ((h.ends s (h.tl s ht)).1)) (λr _ hr=>om) k)
def Fs.add (f:Fs) (s a b:Nat) (x:Int) (t:Bool):Fs:=
 ⟨λr=>if r=s then true else f.lv r,λr=>if r=s then a else f.a r,λr=>if r=s then b else f.b r,λr=>if r=s then x else f.x r,λr=>if r=s then t else f.t r⟩
def Fs.out (f:Fs) (s:Nat):Fs:={ f with t:=λr=>if r=s then false else f.t r }
def Fs.rem (f:Fs) (s:Nat):Fs:={ f with lv:=λr=>if r=s then false else f.lv r,t:=λr=>if r=s then false else f.t r }
theorem Fs.gL {s a b r:Nat} {x:Int} {t:Bool} (h:r≠s):(f.add s a b x t).lv r=f.lv r∧(f.add s a b x t).a r=f.a r∧(f.add s a b x t).b r=f.b r∧(f.add s a b x t).x r=f.x r∧(f.add s a b x t).t r=f.t r:=
 ⟨if_neg h,if_neg h,if_neg h,if_neg h,if_neg h⟩
theorem Fs.add_eq {s a b:Nat} {x:Int} {t:Bool}:(f.add s a b x t).lv s=true∧(f.add s a b x t).a s=a∧(f.add s a b x t).b s=b∧(f.add s a b x t).x s=x∧(f.add s a b x t).t s=t:=
 ⟨if_pos rfl,if_pos rfl,if_pos rfl,if_pos rfl,if_pos rfl⟩
theorem gM.add (h:gM S V f) {s a b:Nat} {x:Int} {t:Bool} (hn:f.lv s=false) (hs:s<S) (ha:a<V) (hb:b<V) (hab:a≠b)
  (hsp:t=true∨Ct f (λr=>f.t r=true∧(x<f.x r∨x=f.x r∧s<r)) a b):gM S V (f.add s a b x t):=by
 obtain⟨p1,p2,p3,p4,p5⟩:=Fs.add_eq (f:=f) (s:=s) (a:=a) (b:=b) (x:=x) (t:=t)
 have hlt:∀r,f.t r=true→r≠s:=λr hr e=>by
  have:=h.tl r hr;rw[e,hn] at this;exact nomatch this
 refine⟨λr hr=>?_,λr hr=>?_,λr hr=>?_⟩
 ·by_cases c:r=s
  ·subst c;rw[p2,p3];exact⟨hs,ha,hb,hab⟩
  ·obtain⟨q1,q2,q3,_,_⟩:=Fs.gL (f:=f) (s:=s) (a:=a) (b:=b) (x:=x) (t:=t) c;rw[q1] at hr;rw[q2,q3];exact h.ends r hr
 ·by_cases c:r=s
  ·subst c;exact p1
  ·obtain⟨q1,_,_,_,q5⟩:=Fs.gL (f:=f) (s:=s) (a:=a) (b:=b) (x:=x) (t:=t) c;rw[q5] at hr;rw[q1];exact h.tl r hr
 ·by_cases c:r=s
  ·subst c;rw[p2,p3]
   rcases hsp with e |e
   ·have:=Ct.one (f:=f.add r a b x t) (T:=λq=>(f.add r a b x t).t q=true∧(q=r∨(f.add r a b x t).bf r q)) (s:=r) ⟨p5.trans e,.inl rfl⟩;rw[p2,p3] at this;exact this
   ·refine e.mono λq hq=>?_;obtain⟨q1,q2,q3,q4,q5⟩:=Fs.gL (f:=f) (s:=r) (a:=a) (b:=b) (x:=x) (t:=t) (hlt q hq.1);refine⟨⟨by rw[q5];exact hq.1,.inr ?_⟩,q2,q3⟩;unfold Fs.bf;rw[p4,q4];exact hq.2
  ·obtain⟨q1,q2,q3,q4,q5⟩:=Fs.gL (f:=f) (s:=s) (a:=a) (b:=b) (x:=x) (t:=t) c;rw[q1] at hr;rw[q2,q3];refine(h.span r hr).mono λq hq=>?_;obtain⟨g1,g2,g3,g4,g5⟩:=Fs.gL (f:=f) (s:=s) (a:=a) (b:=b) (x:=x) (t:=t) (hlt q hq.1);refine⟨⟨by rw[g5];exact hq.1,hq.2.imp (λe=>e) λe=>?_⟩,g2,g3⟩;unfold Fs.bf at*;rw[q4,g4];exact e
theorem gM.swap (h:gM S V f) {s a b m:Nat} {x:Int} (hn:f.lv s=false) (hs:s<S) (ha:a<V) (hb:b<V) (hab:a≠b) (hm:f.t m=true)
  (hw:Ct f (λr=>f.t r=true∧(r=m∨f.bf m r)) a b) (hx:Ct f (λr=>f.t r=true∧r≠m) a b→False) (hlt:f.x m<x∨f.x m=x∧m<s):gM S V ((f.out m).add s a b x true):=by
 obtain⟨g,hg⟩:=nE ((f.out m).add s a b x true);obtain⟨p1,p2,p3,p4,p5⟩:=Fs.add_eq (f:=f.out m) (s:=s) (a:=a) (b:=b) (x:=x) (t:=true)
 have pn:∀r,r≠s→g.lv r=f.lv r∧g.a r=f.a r∧g.b r=f.b r∧g.x r=f.x r∧g.t r=(if r=m then false else f.t r):=λr hr=>by
  rw[←hg];exact Fs.gL (f:=f.out m) hr
 rw[hg] at p1 p2 p3 p4 p5⊢
 have hts:∀r,f.t r=true→r≠s:=λr hr e=>by
  have:=h.tl r hr;rw[e,hn] at this;exact nomatch this
 have hms:=hts m hm
 have pt:∀r,f.t r=true→r≠m→g.t r=true∧g.a r=f.a r∧g.b r=f.b r∧g.x r=f.x r:=λr hr hrm=>by
  obtain⟨q1,q2,q3,q4,q5⟩:=pn r (hts r hr);rw[if_neg hrm] at q5;exact⟨q5.trans hr,q2,q3,q4⟩
 have hold:∀(P:Nat→Prop),P s→(∀r,f.t r=true→r≠m→f.bf m r→P r)→Ct g (λr=>g.t r=true∧P r) (f.a m) (f.b m):=λP hPs hP=>by
  have hU:∀v w,Ct f (λr=>f.t r=true∧(r=m∨f.bf m r)∧r≠m) v w→Ct g (λr=>g.t r=true∧P r) v w:=λv w k=>k.mono λr hr=>by
   obtain⟨e1,e2,e3,_⟩:=pt r hr.1 hr.2.2;exact⟨⟨e1,hP r hr.1 hr.2.2 (hr.2.1.resolve_left hr.2.2)⟩,e2,e3⟩
  have hse:Ct g (λr=>g.t r=true∧P r) a b:=by
   have:=Ct.one (f:=g) (T:=λr=>g.t r=true∧P r) (s:=s) ⟨p5,hPs⟩;rw[p2,p3] at this;exact this
  have key:∀{v:Nat},cZ (LnF f λr=>f.t r=true∧(r=m∨f.bf m r)) a v→Ct f (λr=>f.t r=true∧(r=m∨f.bf m r)∧r≠m) a v∨
    (Ct f (λr=>f.t r=true∧(r=m∨f.bf m r)∧r≠m) a (f.a m)∧Ct f (λr=>f.t r=true∧(r=m∨f.bf m r)∧r≠m) (f.b m) v)∨
    (Ct f (λr=>f.t r=true∧(r=m∨f.bf m r)∧r≠m) a (f.b m)∧Ct f (λr=>f.t r=true∧(r=m∨f.bf m r)∧r≠m) (f.a m) v):=by
   intro v hv
   induction hv with
   |refl=>exact .inl .refl
   |@step y z _ e ih=>
    obtain⟨r,⟨h1,h2⟩,e⟩:=e
    by_cases c:r=m
    ·subst c
     rcases ih with ih |⟨i1,i2⟩ |⟨i1,i2⟩<;>rcases e with⟨e1,e2⟩ |⟨e1,e2⟩
     ·exact .inr (.inl ⟨by rw[e1];exact ih,by rw[e2];exact .refl⟩)
     ·exact .inr (.inr ⟨by rw[e2];exact ih,by rw[e1];exact .refl⟩)
     ·exact .inr (.inl ⟨i1,by rw[e2];exact .refl⟩)
     ·exact .inl (by rw[←e1];exact i1)
     ·exact .inl (by rw[←e2];exact i1)
     ·exact .inr (.inr ⟨i1,by rw[e1];exact .refl⟩)
    ·have st:LnF f (λr=>f.t r=true∧(r=m∨f.bf m r)∧r≠m) y z:=⟨r,⟨h1,h2,c⟩,e⟩
     rcases ih with ih |⟨i1,i2⟩ |⟨i1,i2⟩
     ·exact .inl (.step ih st)
     ·exact .inr (.inl ⟨i1,.step i2 st⟩)
     ·exact .inr (.inr ⟨i1,.step i2 st⟩)
  rcases key hw with k |⟨k1,k2⟩ |⟨k1,k2⟩
  ·exact absurd (k.mono λr hr=>⟨⟨hr.1,hr.2.2⟩,rfl,rfl⟩) hx
  ·exact((hU _ _ k1).symm.trans hse).trans (hU _ _ k2).symm
  ·exact(hU _ _ k2).trans (hse.symm.trans (hU _ _ k1))
 refine⟨λr hr=>?_,λr hr=>?_,λr hr=>?_⟩
 ·by_cases c:r=s
  ·subst c;rw[p2,p3];exact⟨hs,ha,hb,hab⟩
  ·obtain⟨q1,q2,q3,_,_⟩:=pn r c;rw[q1] at hr;rw[q2,q3];exact h.ends r hr
 ·by_cases c:r=s
  ·subst c;exact p1
  ·obtain⟨q1,_,_,_,q5⟩:=pn r c;rw[q5] at hr;rw[q1]
   split at hr
   ·exact nomatch hr
   ·exact h.tl r hr
 ·by_cases c:r=s
  ·subst c;exact Ct.one (f:=g) (T:=λq=>g.t q=true∧(q=r∨g.bf r q)) ⟨p5,.inl rfl⟩
  ·obtain⟨q1,q2,q3,q4,q5⟩:=pn r c;rw[q1] at hr;rw[q2,q3];refine Ct.sub (f:=f) (λq hq=>?_) (h.span r hr)
   by_cases c2:q=m
   ·subst c2;refine hold (λw=>w=r∨g.bf r w) (.inr ?_) λw hw1 hw2 hw3=>.inr ?_
    ·unfold Fs.bf;rw[q4,p4]
     rcases hq.2 with e |e
     ·subst e;exact hlt
     ·unfold Fs.bf at e;omega
    ·obtain⟨_,_,_,e4⟩:=pt w hw1 hw2;unfold Fs.bf at*;rw[q4,e4]
     rcases hq.2 with e |e
     ·subst e;exact hw3
     ·omega
   ·obtain⟨e1,e2,e3,e4⟩:=pt q hq.1 c2
    have:=Ct.one (f:=g) (T:=λw=>g.t w=true∧(w=r∨g.bf r w)) (s:=q) ⟨e1,hq.2.imp (λe=>e) λe=>by
     unfold Fs.bf at*
     rw[q4,e4];exact e⟩
    rw[e2,e3] at this;exact this
theorem gM.rem (h:gM S V f) {m:Nat} (hm:∀s,f.lv s=true→s=m∨f.bf m s):gM S V (f.rem m):=by
 have hrm:∀r,(f.rem m).lv r=true→r≠m∧f.lv r=true:=λr hr=>by
  have:(if r=m then false else f.lv r)=true:=hr
  split at this
  ·exact nomatch this
  ·rename_i c;exact⟨c,this⟩
 refine⟨λr hr=>h.ends r (hrm r hr).2,λr hr=>?_,λr hr=>?_⟩
 ·have:(if r=m then false else f.t r)=true:=hr
  split at this
  ·exact nomatch this
  ·rename_i c;show(if r=m then false else f.lv r)=true;rw[if_neg c];exact h.tl r this
 ·obtain⟨h1,h2⟩:=hrm r hr;refine(h.span r h2).mono λq hq=>⟨⟨?_,hq.2⟩,rfl,rfl⟩;show(if q=m then false else f.t q)=true;rw[if_neg,hq.1];intro e;have h3:=(hm r h2).resolve_left h1
  rcases hq.2 with k |k
  ·exact h1 (k.symm.trans e)
  ·rw[e] at k;unfold Fs.bf at*;omega
end
end Go.Proofs.YtpaeogglppampaaGreatDoor
