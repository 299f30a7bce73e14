/- Lemmas of the proof. Conditions: as each one states. -/
import Derived.Test.YtpaeogglppampaaGreatDoorQa
import Derived.Test.YtpaeogglppampaaGreatDoorRows
set_option maxRecDepth 100000
set_option maxHeartbeats 16000000
namespace Go.Proofs.YtpaeogglppampaaGreatDoor
open Go.RowKit
def aW (k:Nat→Nat) (u v:Nat):Nat→Nat:=λi=>if k i=max (k u) (k v) then min (k u) (k v) else k i
def xk (ps:List (Nat × Nat)):Nat→Nat:=ps.foldl (λk p=>aW k p.1 p.2) id
theorem uH (ps:List (Nat × Nat)) (u v:Nat):xk (ps++[(u,v)])=aW (xk ps) u v:=by simp[xk]
structure gP (k:Nat→Nat):Prop where
 le:∀i,k i≤i
 idem:∀i,k (k i)=k i
theorem gP.id:gP id:=⟨λ_=>Nat.le_refl _,λ_=>rfl⟩
theorem sI {k:Nat→Nat} (h:gP k) (u v i j:Nat):aW k u v i=aW k u v j↔(k i=k j∨(k i=k u∧k j=k v)∨(k i=k v∧k j=k u)):=by
 unfold aW;have hu:=h.idem u;have hv:=h.idem v
 split<;>split<;>omega
theorem Ee {k:Nat→Nat} (h:gP k) (u v:Nat):gP (aW k u v):=by
 refine⟨λi=>?_,λi=>?_⟩
 ·have:=h.le i
  unfold aW;split<;>omega
 ·have hu:=h.idem u;have hv:=h.idem v;have hi:=h.idem i
  have hm:k (min (k u) (k v))=min (k u) (k v):=by
   rcases Nat.le_total (k u) (k v) with c |c
   ·rw[Nat.min_eq_left c];exact hu
   ·rw[Nat.min_eq_right c];exact hv
  unfold aW
  by_cases c:k i=max (k u) (k v)
  ·rw[if_pos c,hm]
   split<;>omega
  ·rw[if_neg c,hi,if_neg c]
theorem wh (ps:List (Nat × Nat)):gP (xk ps):=by
 have key:∀(ps:List (Nat × Nat)) (k:Nat→Nat),gP k→gP (ps.foldl (λk p=>aW k p.1 p.2) k):=by
  intro ps
  induction ps with
  |nil=>intro k h;exact h
  |cons p ps ih=>intro k h;exact ih _ (Ee h p.1 p.2)
 exact key ps _ gP.id
theorem xA {k:Nat→Nat} {u v:Nat} (h:k u=k v):aW k u v=k:=by
 funext i
 unfold aW;rw[h,Nat.max_self,Nat.min_self]
 split<;>omega
inductive Cn (ps:List (Nat × Nat)):Nat→Nat→Prop
 |refl (a:Nat):Cn ps a a
 |step {a b c:Nat} (h:Cn ps a b) (e:(b,c)∈ps∨(c,b)∈ps):Cn ps a c
section
variable {ps qs:List (Nat × Nat)} {a b c:Nat}
theorem Cn.trans (h:Cn ps a b) (k:Cn ps b c):Cn ps a c:=by
 induction k with
 |refl=>exact h
 |step _ e ih=>exact .step ih e
theorem Cn.one (e:(a,b)∈ps∨(b,a)∈ps):Cn ps a b:=.step (.refl a) e
theorem Cn.symm (h:Cn ps a b):Cn ps b a:=by
 induction h with
 |refl=>exact .refl _
 |step _ e ih=>exact(Cn.one e.symm).trans ih
theorem Cn.mono (h:Cn ps a b) (hs:∀p∈ps,p∈qs):Cn qs a b:=by
 induction h with
 |refl=>exact .refl _
 |step _ e ih=>exact .step ih (e.imp (hs _) (hs _))
theorem Wp {u v:Nat}:Cn (ps++[(u,v)]) a b↔(Cn ps a b∨(Cn ps a u∧Cn ps v b)∨(Cn ps a v∧Cn ps u b)):=by
 constructor
 ·intro h
  induction h with
  |refl=>exact .inl (.refl _)
  |@step b c _ e ih=>
   have e':((b,c)∈ps∨(c,b)∈ps)∨(b=u∧c=v)∨(b=v∧c=u):=by
    simp only[List.mem_append,List.mem_singleton,Prod.mk.injEq] at e
    rcases e with(e |e) |(e |e)
    ·exact .inl (.inl e)
    ·exact .inr (.inl e)
    ·exact .inl (.inr e)
    ·exact .inr (.inr ⟨e.2,e.1⟩)
   rcases e' with e |⟨rfl,rfl⟩ |⟨rfl,rfl⟩
   ·rcases ih with h |⟨h1,h2⟩ |⟨h1,h2⟩
    ·exact .inl (.step h e)
    ·exact .inr (.inl ⟨h1,.step h2 e⟩)
    ·exact .inr (.inr ⟨h1,.step h2 e⟩)
   ·rcases ih with h |⟨h1,h2⟩ |⟨h1,h2⟩
    ·exact .inr (.inl ⟨h,.refl _⟩)
    ·exact .inr (.inl ⟨h1,.refl _⟩)
    ·exact .inl h1
   ·rcases ih with h |⟨h1,h2⟩ |⟨h1,h2⟩
    ·exact .inr (.inr ⟨h,.refl _⟩)
    ·exact .inl h1
    ·exact .inr (.inr ⟨h1,.refl _⟩)
 ·have up:∀{x y},Cn ps x y→Cn (ps++[(u,v)]) x y:=λh=>h.mono λp hp=>List.mem_append_left _ hp;have uv:Cn (ps++[(u,v)]) u v:=.one (.inl sj);rintro(h |⟨h1,h2⟩ |⟨h1,h2⟩)
  ·exact up h
  ·exact((up h1).trans uv).trans (up h2)
  ·exact((up h1).trans uv.symm).trans (up h2)
theorem oM {α:Type} {P:List α→Prop} (h0:P []) (h1:∀l a,P l→P (l++[a])) (l:List α):P l:=by
 have key:∀(n:Nat) (l:List α),l.length=n→P l:=by
  intro n
  induction n with
  |zero=>intro l hl;rw[List.eq_nil_of_length_eq_zero hl];exact h0
  |succ n ih=>
   intro l hl
   have hne:l≠[]:=λe=>by rw[e] at hl;cases hl
   rw[←List.dropLast_concat_getLast hne];exact h1 _ _ (ih _ (by rw[List.length_dropLast];omega))
 exact key _ l rfl
theorem wB (ps:List (Nat × Nat)):∀i j,xk ps i=xk ps j↔Cn ps i j:=by
 induction ps using oM with
 |h0=>
  intro i j;constructor
  ·intro h;have h:i=j:=h;subst h;exact .refl _
  ·intro h
   induction h with
   |refl=>rfl
   |step _ e=>simp at e
 |h1 ps p ih=>
  obtain⟨u,v⟩:=p;intro i j;rw[uH,sI (wh ps),Wp,ih,ih,ih,ih,ih];constructor
  ·rintro(h |⟨h1,h2⟩ |⟨h1,h2⟩)
   ·exact .inl h
   ·exact .inr (.inl ⟨h1,h2.symm⟩)
   ·exact .inr (.inr ⟨h1,h2.symm⟩)
  ·rintro(h |⟨h1,h2⟩ |⟨h1,h2⟩)
   ·exact .inl h
   ·exact .inr (.inl ⟨h1,h2.symm⟩)
   ·exact .inr (.inr ⟨h1,h2.symm⟩)
theorem xg (h:Cn ps a b):xk ps a≤b:=by
 rw[(wB ps a b).2 h];exact(wh ps).le b
theorem Sm (ps:List (Nat × Nat)) (a:Nat):Cn ps a (xk ps a):=(wB ps _ _).1 ((wh ps).idem a).symm
theorem zO (h:∀a b,Cn ps a b↔Cn qs a b):xk ps=xk qs:=by
 funext a
 exact Nat.le_antisymm (xg ((h _ _).2 (Sm qs a))) (xg ((h _ _).1 (Sm ps a)))
end
def iV (n:Nat) (k:Nat→Nat):Nat:=((List.range n).filter λi=>decide (k i=i)).length
theorem JX (n:Nat):iV n id=n:=by
 unfold iV;rw[List.filter_eq_self.2 (λi _=>sj)];exact List.length_range
theorem uQ {n:Nat} {k:Nat→Nat} (h:gP k) {u v:Nat} (hu:u<n) (hv:v<n) (hne:k u≠k v):iV n (aW k u v)+1=iV n k:=by
 have hm:∀i,(aW k u v i=i↔(k i=i∧i≠max (k u) (k v))):=λi=>by
  have hu':=h.idem u;have hv':=h.idem v;have hi:=h.le i;unfold aW
  by_cases c:k i=max (k u) (k v)
  ·rw[if_pos c];constructor
   ·intro e;omega
   ·rintro⟨e1,e2⟩;omega
  ·rw[if_neg c];constructor
   ·intro e;exact⟨e,λd=>c (e.trans d)⟩
   ·exact λe=>e.1
 have hM:max (k u) (k v)<n:=oD (h.le u) (h.le v)
 have hMk:k (max (k u) (k v))=max (k u) (k v):=by
  rcases Nat.le_total (k u) (k v) with c |c
  ·rw[Nat.max_eq_right c];exact h.idem v
  ·rw[Nat.max_eq_left c];exact h.idem u
 generalize max (k u) (k v)=M at*;unfold iV
 have e1:(List.range n).filter (λi=>decide (aW k u v i=i))=((List.range n).filter λi=>decide (k i=i)).filter λi=>decide (i≠M):=by
  rw[List.filter_filter];refine List.filter_congr λi _=>?_;have:=hm i
  by_cases c:k i=i<;>by_cases d:i=M
  ·have e:¬aW k u v i=i:=λe=>(this.1 e).2 d;simp[d,d▸e]
  ·have e:aW k u v i=i:=this.2 ⟨c,d⟩;simp[c,d,e]
  ·have e:¬aW k u v i=i:=λe=>(this.1 e).2 d;simp[d,d▸e]
  ·have e:¬aW k u v i=i:=λe=>c (this.1 e).1;simp[c,e]
 rw[e1];have hmem:M∈(List.range n).filter λi=>decide (k i=i):=List.mem_filter.2 ⟨List.mem_range.2 hM,by simpa using hMk⟩;have hnd:((List.range n).filter λi=>decide (k i=i)).Nodup:=List.nodup_range.filter _;generalize (List.range n).filter (λi=>decide (k i=i))=l at*
 have e2:l.filter (λi=>decide (i≠M))=l.erase M:=by
  rw[hnd.erase_eq_filter];refine List.filter_congr λi _=>?_;simp[bne]
  by_cases hd:i=M<;>simp[hd]
 rw[e2,List.length_erase_of_mem hmem];have:=List.length_pos_of_mem hmem;omega
def gJ (E:List Ed) (i:Nat):Nat × Nat:=((aR E i).u.toNat,(aR E i).v.toNat)
def bR (E:List Ed) (o:List Nat):Nat→Nat:=xk (o.map (gJ E))
def EU (E:List Ed) (k:Nat→Nat) (i:Nat):Bool:=decide (k (gJ E i).1≠k (gJ E i).2)
def XD (E:List Ed) (s:(Nat→Nat) × List Nat) (i:Nat):(Nat→Nat) × List Nat:=
 (aW s.1 (gJ E i).1 (gJ E i).2,if EU E s.1 i then s.2++[i] else s.2)
def aH (E:List Ed) (o:List Nat):List Nat:=(o.foldl (XD E) (id,[])).2
theorem Mj (E:List Ed) (o:List Nat):(o.foldl (XD E) (id,[])).1=bR E o:=by
 induction o using oM with
 |h0=>rfl
 |h1 o i ih=>
  rw[List.foldl_append,List.foldl_cons,List.foldl_nil];unfold bR at*;rw[List.map_append,List.map_cons,List.map_nil,uH,←ih]
  rfl
theorem oU (E:List Ed) (o:List Nat) (i:Nat):bR E (o++[i])=aW (bR E o) (gJ E i).1 (gJ E i).2:=by
 unfold bR;rw[List.map_append,List.map_cons,List.map_nil,uH]
theorem j6 (E:List Ed) (o:List Nat) (i:Nat):aH E (o++[i])=if EU E (bR E o) i then aH E o++[i] else aH E o:=by
 unfold aH;rw[List.foldl_append,List.foldl_cons,List.foldl_nil,←Mj]
 rfl
theorem V9 (E:List Ed):aH E []=[]:=rfl
theorem vZ (E:List Ed) (o:List Nat):gP (bR E o):=wh _
theorem kK (E:List Ed) (o:List Nat):(aH E o).Sublist o:=by
 induction o using oM with
 |h0=>exact List.Sublist.refl _
 |h1 o i ih=>
  rw[j6]
  split
  ·exact ih.append (List.Sublist.refl _)
  ·exact ih.trans (List.sublist_append_left _ _)
theorem BI (E:List Ed) (o:List Nat):(aH E o).length≤o.length:=(kK E o).length_le
theorem Eb (E:List Ed) (o:List Nat):bR E (aH E o)=bR E o:=by
 induction o using oM with
 |h0=>rfl
 |h1 o i ih=>
  rw[j6,oU]
  split
  ·rw[oU,ih]
  ·rename_i h
   have h:bR E o (gJ E i).1=bR E o (gJ E i).2:=by simpa [EU] using h
   rw[xA h,ih]
def Lnk (E:List Ed) (i a b:Nat):Prop:=gJ E i=(a,b)∨gJ E i=(b,a)
theorem Lnk.symm {E:List Ed} {i a b:Nat} (h:Lnk E i a b):Lnk E i b a:=h.elim .inr .inl
inductive CI (E:List Ed) (S:Nat→Prop):Nat→Nat→Prop
 |refl (a:Nat):CI E S a a
 |step {a b c:Nat} (i:Nat) (h:CI E S a b) (hi:S i) (e:Lnk E i b c):CI E S a c
section
variable {E:List Ed} {S T:Nat→Prop} {a b c:Nat}
theorem CI.trans (h:CI E S a b) (k:CI E S b c):CI E S a c:=by
 induction k with
 |refl=>exact h
 |step i _ hi e ih=>exact .step i ih hi e
theorem CI.one {i:Nat} (hi:S i) (e:Lnk E i a b):CI E S a b:=.step i (.refl a) hi e
theorem CI.symm (h:CI E S a b):CI E S b a:=by
 induction h with
 |refl=>exact .refl _
 |step i _ hi e ih=>exact(CI.one hi e.symm).trans ih
theorem CI.mono (h:CI E S a b) (hs:∀i,S i→T i):CI E T a b:=by
 induction h with
 |refl=>exact .refl _
 |step i _ hi e ih=>exact .step i ih (hs i hi) e
theorem Sz {o:List Nat}:CI E (·∈o) a b↔Cn (o.map (gJ E)) a b:=by
 constructor
 ·intro h
  induction h with
  |refl=>exact .refl _
  |@step b c i _ hi e ih=>exact .step ih (e.imp (λe=>by rw[←e];exact List.mem_map_of_mem hi) (λe=>by rw[←e];exact List.mem_map_of_mem hi))
 ·intro h
  induction h with
  |refl=>exact .refl _
  |step _ e ih=>
   rcases e with e |e
   ·obtain⟨i,hi,he⟩:=List.mem_map.1 e;exact .step i ih hi (.inl he)
   ·obtain⟨i,hi,he⟩:=List.mem_map.1 e;exact .step i ih hi (.inr he)
end
def wo (S:Nat→Prop) (i:Nat):Nat→Prop:=λj=>S j∧j≠i
section
variable {E:List Ed} {S T:Nat→Prop} {o:List Nat} {a b x y i k:Nat}
theorem Wv (h:∀k,S k→CI E T (gJ E k).1 (gJ E k).2) (hc:CI E S a b):CI E T a b:=by
 induction hc with
 |refl=>exact .refl _
 |@step b c k _ hk hl ih=>
  have h1:=h k hk
  rcases hl with e |e
  ·rw[e] at h1;exact ih.trans h1
  ·rw[e] at h1;exact ih.trans h1.symm
theorem aae (hk:S k):CI E S (gJ E k).1 (gJ E k).2:=CI.one hk (.inl rfl)
theorem aaf {a b:Nat}:CI E (·∈o) a b↔bR E o a=bR E o b:=by
 rw[Sz];exact(wB _ a b).symm
end
inductive cZ {α:Type} (A:α→α→Prop) (a:α):α→Prop
 |refl:cZ A a a
 |step {b c:α} (h:cZ A a b) (e:A b c):cZ A a c
theorem cZ.trans {α:Type} {A:α→α→Prop} {a b c:α} (h:cZ A a b) (k:cZ A b c):cZ A a c:=by
 induction k with
 |refl=>exact h
 |step _ e ih=>exact .step ih e
theorem cZ.symm {α:Type} {A:α→α→Prop} (s:∀v w,A v w→A w v) {a b:α} (h:cZ A a b):cZ A b a:=by
 induction h with
 |refl=>exact .refl
 |step _ e ih=>exact(cZ.step .refl (s _ _ e)).trans ih
theorem cZ.mono {α:Type} {A B:α→α→Prop} (s:∀v w,A v w→B v w) {a b:α} (h:cZ A a b):cZ B a b:=by
 induction h with
 |refl=>exact .refl
 |step _ e ih=>exact .step ih (s _ _ e)
theorem cZ.clo {α:Type} {A:α→α→Prop} {C:α→Prop} (s:∀v w,A v w→C v→C w) {a b:α} (h:cZ A a b) (ha:C a):C b:=by
 induction h with
 |refl=>exact ha
 |step _ e ih=>exact s _ _ e ih
structure Rc where
 u:Int
 v:Int
 t:Int
 w:Int
def Fh:Rc:=⟨0,0,0,0⟩
def RL (l:List Rc) (x y:Int):Prop:=∃r∈l,r.u=x∧r.v=y∨r.u=y∧r.v=x
def ND (out:List Int) (r:Rc):List Int:=
 if r.u∈out then(if r.v∈out then out else out++[r.v]) else(if r.v∈out then out++[r.u] else out)
def pX (l:List Rc) (out:List Int):List Int:=l.foldl ND out
def yM (l:List Rc) (x:Int):Nat→List Int
 |0=>[x]
 |k+1=>pX l (yM l x k)
def mY (l:List Rc) (x:Int):List Int:=yM l x l.length
theorem oN (out:List Int) (r:Rc):(ND out r=out∧(r.u∈out↔r.v∈out))∨(ND out r=out++[r.v]∧r.u∈out∧r.v∉out)∨(ND out r=out++[r.u]∧r.v∈out∧r.u∉out):=by
 unfold ND
 by_cases h1:r.u∈out<;>by_cases h2:r.v∈out<;>simp[h1,h2]
theorem UK (out:List Int) (r:Rc):∀x∈out,x∈ND out r:=λx hx=>by
 rcases oN out r with⟨e,_⟩ |⟨e,_⟩ |⟨e,_⟩<;>rw[e]<;>simp[hx]
theorem Dv (l:List Rc):∀out:List Int,∀x∈out,x∈pX l out:=by
 induction l with
 |nil=>exact λ_ x hx=>hx
 |cons r l ih=>exact λout x hx=>ih _ x (UK out r x hx)
structure XK (l:List Rc) (x:Int) (out:List Int):Prop where
 nd:out.Nodup
 has:x∈out
 ok:∀y∈out,cZ (RL l) x y
theorem XK.step {l:List Rc} {x:Int} {out:List Int} (h:XK l x out) {r:Rc} (hr:r∈l):XK l x (ND out r):=by
 rcases oN out r with⟨e,_⟩ |⟨e,h1,h2⟩ |⟨e,h1,h2⟩
 ·rw[e];exact h
 ·rw[e];refine⟨List.nodup_append.2 ⟨h.nd,sj,λa ha b hb e=>h2 (by simp at hb;rw[←hb,←e];exact ha)⟩,by simp[h.has],λy hy=>?_⟩
  rcases List.mem_append.1 hy with hy |hy
  ·exact h.ok y hy
  ·obtain rfl:y=r.v:=by simpa using hy
   exact .step (h.ok _ h1) ⟨r,hr,.inl ⟨rfl,rfl⟩⟩
 ·rw[e];refine⟨List.nodup_append.2 ⟨h.nd,sj,λa ha b hb e=>h2 (by simp at hb;rw[←hb,←e];exact ha)⟩,by simp[h.has],λy hy=>?_⟩
  rcases List.mem_append.1 hy with hy |hy
  ·exact h.ok y hy
  ·obtain rfl:y=r.u:=by simpa using hy
   exact .step (h.ok _ h1) ⟨r,hr,.inr ⟨rfl,rfl⟩⟩
theorem XK.round {l:List Rc} {x:Int}:∀(m:List Rc) {out:List Int},(∀r∈m,r∈l)→XK l x out→XK l x (pX m out)
 |[],_,_,h=>h
 |r::m,_,hm,h=>XK.round m (λr hr=>hm r (by simp[hr])) (h.step (hm r sj))
def NC (l:List Rc) (out:List Int):Nat:=(l.filter λr=>decide (r.u∈out∧r.v∈out)).length
theorem wM {l:List Rc} {A B:List Int} (h:∀x∈A,x∈B):NC l A≤NC l B:=by
 unfold NC
 induction l with
 |nil=>exact Nat.le_refl _
 |cons r l ih=>
  rw[List.filter_cons,List.filter_cons]
  split
  ·rename_i c;have c':=of_decide_eq_true c;rw[if_pos (decide_eq_true ⟨h _ c'.1,h _ c'.2⟩)];simp only[List.length_cons];omega
  ·split
   ·simp only[List.length_cons];omega
   ·exact ih
theorem PD {l:List Rc} {A B:List Int} (h:∀x∈A,x∈B) {r:Rc} (hr:r∈l) (h1:¬(r.u∈A∧r.v∈A)) (h2:r.u∈B∧r.v∈B):NC l A<NC l B:=by
 unfold NC
 induction l with
 |nil=>simp at hr
 |cons s l ih=>
  rw[List.filter_cons,List.filter_cons]
  rcases List.mem_cons.1 hr with rfl |hr
  ·rw[if_neg (by simpa using h1),if_pos (dP h2)];have:=wM (l:=l) h;unfold NC at this;simp only[List.length_cons];omega
  ·have:=ih hr
   split
   ·rename_i c;have c':=of_decide_eq_true c;rw[if_pos (decide_eq_true ⟨h _ c'.1,h _ c'.2⟩)];simp only[List.length_cons];omega
   ·split
    ·simp only[List.length_cons];omega
    ·exact this
theorem Yv (l:List Rc) (A:List Int):NC l A≤l.length:=List.length_filter_le _ _
theorem UJ {l:List Rc} {A:List Int} (h:l.length≤NC l A):∀r∈l,r.u∈A∧r.v∈A:=λr hr=>by
 have h1:=List.length_filter_eq_length_iff.1 (Nat.le_antisymm (Yv l A) h);exact of_decide_eq_true (h1 r hr)
theorem zC {l:List Rc}:∀(m:List Rc) (out:List Int),(∀r∈m,r∈l)→(pX m out=out∧∀r∈m,r.u∈out↔r.v∈out)∨NC l out<NC l (pX m out)
 |[],out,_=>.inl ⟨rfl,λr hr=>by simp at hr⟩
 |r::m,out,hm=>by
  have h0:=hm r sj
  rcases oN out r with⟨e,k⟩ |⟨e,h1,h2⟩ |⟨e,h1,h2⟩
  ·have e2:pX (r::m) out=pX m out:=by show pX m (ND out r)=_;rw[e]
   rw[e2]
   rcases zC m out (λr hr=>hm r (by simp[hr])) with⟨q1,q2⟩ |q
   ·refine .inl ⟨q1,λs hs=>?_⟩
    rcases List.mem_cons.1 hs with rfl |hs
    ·exact k
    ·exact q2 s hs
   ·exact .inr q
  ·right
   have e2:pX (r::m) out=pX m (out++[r.v]):=by show pX m (ND out r)=_;rw[e]
   rw[e2];refine Nat.lt_of_lt_of_le (PD (B:=out++[r.v]) (λx hx=>by simp[hx]) h0 (λc=>h2 c.2) ⟨by simp[h1],sj⟩) (wM (Dv m _))
  ·right
   have e2:pX (r::m) out=pX m (out++[r.u]):=by show pX m (ND out r)=_;rw[e]
   rw[e2];refine Nat.lt_of_lt_of_le (PD (B:=out++[r.u]) (λx hx=>by simp[hx]) h0 (λc=>h2 c.1) ⟨sj,by simp[h1]⟩) (wM (Dv m _))
theorem PE (l:List Rc) (x:Int):∀k,XK l x (yM l x k)∧((∀r∈l,r.u∈yM l x k↔r.v∈yM l x k)∨k≤NC l (yM l x k))
 |0=>⟨⟨by simp[yM],by simp[yM],λy hy=>by simp[yM] at hy;subst hy;exact .refl⟩,.inr (Nat.zero_le _)⟩
 |k+1=>by
  obtain⟨h1,h2⟩:=PE l x k;refine⟨h1.round l λ_ hr=>hr,?_⟩
  rcases zC (l:=l) l (yM l x k) (λ_ hr=>hr) with⟨q1,q2⟩ |q
  ·left;rw[yM,q1];exact q2
  ·rcases h2 with h2 |h2
   ·have key:∀(m:List Rc),(∀r∈m,r.u∈yM l x k↔r.v∈yM l x k)→pX m (yM l x k)=yM l x k:=by
     intro m
     induction m with
     |nil=>exact λ_=>rfl
     |cons r m ih=>
      intro hm;have hr:=hm r sj
      have e:ND (yM l x k) r=yM l x k:=by
       rcases oN (yM l x k) r with⟨e,_⟩ |⟨_,a,b⟩ |⟨_,a,b⟩
       ·exact e
       ·exact absurd (hr.1 a) b
       ·exact absurd (hr.2 a) b
      show pX m (ND (yM l x k) r)=_;rw[e];exact ih λr hr=>hm r (by simp[hr])
    left;rw[yM,key l h2];exact h2
   ·right;rw[yM];omega
theorem PG (l:List Rc) (x:Int):(mY l x).Nodup∧∀y,y∈mY l x↔cZ (RL l) x y:=by
 obtain⟨h1,h2⟩:=PE l x l.length
 have h3:∀r∈l,r.u∈mY l x↔r.v∈mY l x:=by
  rcases h2 with h2 |h2
  ·exact h2
  ·intro r hr;have:=UJ h2 r hr;exact⟨λ_=>this.2,λ_=>this.1⟩
 refine⟨h1.nd,λy=>⟨h1.ok y,λh=>?_⟩⟩;refine h.clo (C:=λy=>y∈mY l x) (λv w ⟨r,hr,e⟩ hv=>?_) h1.has
 rcases e with⟨rfl,rfl⟩ |⟨rfl,rfl⟩
 ·exact(h3 r hr).1 hv
 ·exact(h3 r hr).2 hv
def aap (out:List Int) (x:Int):List Int:=if x∈out then out else out++[x]
def Qz:List Int→Int
 |[]=>0
 |x::l=>l.foldl min x
theorem Vi {l:List Int} (h:l≠[]):Qz l∈l∧∀y∈l,Qz l≤y:=by
 have key:∀(l:List Int) (x:Int),(l.foldl min x=x∨l.foldl min x∈l)∧l.foldl min x≤x∧∀y∈l,l.foldl min x≤y:=by
  intro l
  induction l with
  |nil=>exact λx=>⟨.inl rfl,Int.le_refl _,λy hy=>by simp at hy⟩
  |cons z l ih=>
   intro x;obtain⟨h1,h2,h3⟩:=ih (min x z);rw[List.foldl_cons];refine⟨?_,om,λy hy=>?_⟩
   ·rcases h1 with e |e
    ·rw[e]
     by_cases c:x≤z
     ·left;omega
     ·right;simp;left;omega
    ·right;simp[e]
   ·rcases List.mem_cons.1 hy with rfl |hy
    ·omega
    ·exact h3 y hy
 cases l with
 |nil=>exact absurd rfl h
 |cons x l=>
  obtain⟨h1,h2,h3⟩:=key l x;refine⟨?_,λy hy=>?_⟩
  ·rcases h1 with e |e
   ·rw[Qz,e];simp
   ·rw[Qz];simp[e]
  ·rcases List.mem_cons.1 hy with rfl |hy
   ·exact h2
   ·exact h3 y hy
structure En where
 i:Nat
 k:Int
def en0:En:=⟨0,0⟩
def aB (L:List En) (p:Nat):En:=L.getD p en0
theorem oV {L:List En} {p:Nat} (h:p<L.length):aB L p=L[p]:=by unfold aB;rw[List.getD_eq_getElem?_getD,List.getElem?_eq_getElem h];rfl
def En.lt (a b:En):Prop:=a.k<b.k∨a.k=b.k∧a.i<b.i
instance (a b:En):Decidable (a.lt b):=by unfold En.lt;infer_instance
theorem En.nlt {a b:En}:¬a.lt b↔b.k<a.k∨b.k=a.k∧b.i≤a.i:=by unfold En.lt;omega
theorem En.trans {a b c:En} (h:¬b.lt a) (k:¬c.lt b):¬c.lt a:=by rw[En.nlt] at*;omega
theorem En.irr (a:En):¬a.lt a:=by rw[En.nlt];omega
theorem En.asy {a b:En} (h:a.lt b):¬b.lt a:=by unfold En.lt at*;omega
def dG (L:List En) (p q:Nat):List En:=(L.set p (aB L q)).set q (aB L p)
theorem aI (L:List En) (p q:Nat):(dG L p q).length=L.length:=by unfold dG;rw[List.length_set,List.length_set]
theorem EF (L:List En) (p:Nat) (e:En) (x:Nat) (hp:p<L.length):aB (L.set p e) x=if x=p then e else aB L x:=by
 unfold aB;rw[List.getD_eq_getElem?_getD,List.getElem?_set]
 split
 ·rename_i c;subst c;rw[if_pos rfl];rfl
 ·rename_i c;rw[if_neg (λe=>c e.symm),List.getD_eq_getElem?_getD]
theorem bA {L:List En} {p q:Nat} (hp:p<L.length) (hq:q<L.length) (x:Nat):aB (dG L p q) x=if x=q then aB L p else if x=p then aB L q else aB L x:=by
 unfold dG;rw[EF _ _ _ _ (by rw[List.length_set];exact hq),EF _ _ _ _ hp]
theorem Db {L:List En} {p q:Nat} (hp:p<L.length) (hq:q<L.length) (e:En):e∈dG L p q↔e∈L:=by
 have key:∀(L:List En) (e:En),e∈L↔∃x,x<L.length∧aB L x=e:=λL e=>by
  rw[List.mem_iff_getElem];exact⟨λ⟨x,hx,h⟩=>⟨x,hx,(oV hx).trans h⟩,λ⟨x,hx,h⟩=>⟨x,hx,(oV hx).symm.trans h⟩⟩
 rw[key,key,aI];constructor
 ·rintro⟨x,hx,h⟩;rw[bA hp hq] at h
  split at h
  ·exact⟨p,hp,h⟩
  ·split at h
   ·exact⟨q,hq,h⟩
   ·exact⟨x,hx,h⟩
 ·rintro⟨x,hx,h⟩
  by_cases c1:x=p
  ·refine⟨q,hq,?_⟩;rw[bA hp hq,if_pos rfl,←c1];exact h
  ·by_cases c2:x=q
   ·refine⟨p,hp,?_⟩;rw[bA hp hq]
    split
    ·rename_i c3;rw[←h,c2,c3]
    ·rw[if_pos rfl,←c2];exact h
   ·refine⟨x,hx,?_⟩;rw[bA hp hq,if_neg c2,if_neg c1];exact h
def Hp (L:List En):Prop:=∀c,0<c→c<L.length→¬(aB L c).lt (aB L ((c-1) / 2))
theorem Hp.min {L:List En} (h:Hp L):∀c<L.length,¬(aB L c).lt (aB L 0):=by
 intro c
 induction c using Nat.strongRecOn with
 |_ c ih=>
  intro hc
  by_cases h0:c=0
  ·subst h0;exact En.irr _
  ·exact En.trans (ih ((c-1) / 2) om om) (h c om hc)
structure XM (L:List En) (p:Nat):Prop where
 lt:p<L.length
 rest:∀c,0<c→c<L.length→c≠p→¬(aB L c).lt (aB L ((c-1) / 2))
 over:0<p→∀c,0<c→c<L.length→(c-1) / 2=p→¬(aB L c).lt (aB L ((p-1) / 2))
structure WO (L:List En) (p:Nat):Prop where
 lt:p<L.length
 rest:∀c,0<c→c<L.length→(c-1) / 2≠p→¬(aB L c).lt (aB L ((c-1) / 2))
 over:0<p→∀c,0<c→c<L.length→(c-1) / 2=p→¬(aB L c).lt (aB L ((p-1) / 2))
def Ib (L:List En) (p:Nat):Option Nat:=if 0<p∧(aB L p).lt (aB L ((p-1) / 2)) then some ((p-1) / 2) else none
def Hw (L:List En) (f q:Nat):Nat:=if q<L.length∧(aB L q).lt (aB L f) then q else f
def CG (L:List En) (p:Nat):Option Nat:=if Hw L (Hw L p (2*p+1)) (2*p+2)=p then none else some (Hw L (Hw L p (2*p+1)) (2*p+2))
theorem XM.step {L:List En} {p q:Nat} (h:XM L p) (k:Ib L p=some q):q<p∧XM (dG L p q) q:=by
 unfold Ib at k
 split at k
 ·rename_i c;obtain⟨h0,hl⟩:=c
  obtain rfl:(p-1) / 2=q:=by simpa using k
  have hp:=h.lt;have hq:(p-1) / 2<L.length:=om;refine⟨om,⟨by rw[aI];exact hq,λc c0 hc hcq=>?_,λhq0 c c0 hc hcp=>?_⟩⟩
  ·rw[aI] at hc;rw[bA hp hq,bA hp hq,if_neg hcq]
   by_cases c1:c=p
   ·subst c1;rw[if_pos rfl,if_pos rfl];exact En.asy hl
   ·rw[if_neg c1]
    by_cases c2:(c-1) / 2=(p-1) / 2
    ·rw[if_pos c2];have:=h.rest c c0 hc c1;rw[c2] at this;exact En.trans (En.asy hl) this
    ·rw[if_neg c2]
     by_cases c3:(c-1) / 2=p
     ·rw[if_pos c3];exact h.over h0 c c0 hc c3
     ·rw[if_neg c3];exact h.rest c c0 hc c1
  ·rw[aI] at hc;have e1:((p-1) / 2-1) / 2≠(p-1) / 2:=om;have e2:((p-1) / 2-1) / 2≠p:=om;rw[bA hp hq,bA hp hq,if_neg e1,if_neg e2];have hq1:=h.rest ((p-1) / 2) hq0 hq om
   by_cases c1:c=p
   ·rw[if_neg om,if_pos c1];exact hq1
   ·rw[if_neg om,if_neg c1];have:=h.rest c c0 hc c1;rw[hcp] at this;exact En.trans hq1 this
 ·exact nomatch k
theorem XM.heap {L:List En} {p:Nat} (h:XM L p) (k:Ib L p=none):Hp L:=by
 intro c c0 hc
 by_cases e:c=p
 ·subst e;unfold Ib at k
  split at k
  ·exact nomatch k
  ·rename_i hn;exact λe=>hn ⟨c0,e⟩
 ·exact h.rest c c0 hc e
theorem iW (L:List En) (f q:Nat):Hw L f q=q∧q<L.length∧(aB L q).lt (aB L f)∨Hw L f q=f∧(q<L.length→¬(aB L q).lt (aB L f)):=by
 unfold Hw
 split
 ·rename_i c;exact .inl ⟨rfl,c.1,c.2⟩
 ·rename_i c;exact .inr ⟨rfl,λe h=>c ⟨e,h⟩⟩
theorem EO {L:List En} {p f:Nat} (k:CG L p=some f):f<L.length∧(f=2*p+1∨f=2*p+2)∧(aB L f).lt (aB L p)∧∀c,0<c→c<L.length→(c-1) / 2=p→¬(aB L c).lt (aB L f):=by
 unfold CG at k;have Ri:∀c,0<c→(c-1) / 2=p→c=2*p+1∨c=2*p+2:=λc c0 e=>om
 rcases iW L p (2*p+1) with⟨e1,l1,h1⟩ |⟨e1,h1⟩
 ·rw[e1] at k
  rcases iW L (2*p+1) (2*p+2) with⟨e2,l2,h2⟩ |⟨e2,h2⟩
  ·rw[e2,if_neg om] at k
   obtain rfl:2*p+2=f:=by simpa using k
   have hlt:(aB L (2*p+2)).lt (aB L p):=by unfold En.lt at*;omega
   refine⟨l2,.inr rfl,hlt,λc c0 hc e=>?_⟩
   rcases Ri c c0 e with rfl |rfl
   ·exact En.asy h2
   ·exact En.irr _
  ·rw[e2,if_neg om] at k
   obtain rfl:2*p+1=f:=by simpa using k
   refine⟨l1,.inl rfl,h1,λc c0 hc e=>?_⟩
   rcases Ri c c0 e with rfl |rfl
   ·exact En.irr _
   ·exact h2 hc
 ·rw[e1] at k
  rcases iW L p (2*p+2) with⟨e2,l2,h2⟩ |⟨e2,h2⟩
  ·rw[e2,if_neg om] at k
   obtain rfl:2*p+2=f:=by simpa using k
   refine⟨l2,.inr rfl,h2,λc c0 hc e=>?_⟩
   rcases Ri c c0 e with rfl |rfl
   ·exact En.trans (En.asy h2) (h1 hc)
   ·exact En.irr _
  ·rw[e2,if_pos rfl] at k;exact nomatch k
theorem SI {L:List En} {p:Nat} (k:CG L p=none):∀c,0<c→c<L.length→(c-1) / 2=p→¬(aB L c).lt (aB L p):=by
 unfold CG at k;have Ri:∀c,0<c→(c-1) / 2=p→c=2*p+1∨c=2*p+2:=λc c0 e=>om
 split at k
 ·rename_i h;intro c c0 hc e
  rcases iW L p (2*p+1) with⟨e1,l1,h1⟩ |⟨e1,h1⟩
  ·rw[e1] at h
   rcases iW L (2*p+1) (2*p+2) with⟨e2,_⟩ |⟨e2,_⟩<;>omega
  ·rw[e1] at h
   rcases iW L p (2*p+2) with⟨e2,l2,h2⟩ |⟨e2,h2⟩
   ·omega
   ·rcases Ri c c0 e with rfl |rfl
    ·exact h1 hc
    ·exact h2 hc
 ·exact nomatch k
theorem WO.step {L:List En} {p q:Nat} (h:WO L p) (k:CG L p=some q):p<q∧q<L.length∧WO (dG L p q) q:=by
 obtain⟨hq,hk,hl,hm⟩:=EO k;have hp:=h.lt;have hqp:(q-1) / 2=p:=om;refine⟨om,hq,⟨by rw[aI];exact hq,λc c0 hc hcq=>?_,λhq0 c c0 hc hcp=>?_⟩⟩
 ·rw[aI] at hc;rw[bA hp hq,bA hp hq];rw[if_neg (t:=aB L p) hcq]
  by_cases c1:c=q
  ·rw[if_pos c1,c1,hqp,if_pos rfl];exact En.asy hl
  ·rw[if_neg c1]
   by_cases c2:c=p
   ·rw[if_pos c2,c2,if_neg om];exact h.over om q om hq hqp
   ·rw[if_neg c2]
    by_cases c3:(c-1) / 2=p
    ·rw[if_pos c3];exact hm c c0 hc c3
    ·rw[if_neg c3];exact h.rest c c0 hc c3
 ·rw[aI] at hc;rw[bA hp hq,bA hp hq,hqp,if_neg om,if_neg om,if_neg om,if_pos rfl];have:=h.rest c c0 hc om;rw[hcp] at this;exact this
theorem WO.heap {L:List En} {p:Nat} (h:WO L p) (k:CG L p=none):Hp L:=by
 intro c c0 hc
 by_cases e:(c-1) / 2=p
 ·have:=SI k c c0 hc e;rw[e];exact this
 ·exact h.rest c c0 hc e
theorem Hp.snoc {L:List En} (h:Hp L) (e:En):XM (L++[e]) L.length:=by
 have hl:(L++[e]).length=L.length+1:=sj
 have he:∀x<L.length,aB (L++[e]) x=aB L x:=λx hx=>by
  unfold aB;rw[List.getD_eq_getElem?_getD,List.getElem?_append_left hx,List.getD_eq_getElem?_getD]
 refine⟨om,λc c0 hc hcn=>?_,λh0 c c0 hc hcp=>om⟩;rw[he c om,he _ om];exact h c c0 om
theorem Hp.pop {L:List En} (h:Hp L) (h0:1<L.length):WO ((dG L 0 (L.length-1)).take (L.length-1)) 0:=by
 have hl:((dG L 0 (L.length-1)).take (L.length-1)).length=L.length-1:=by rw[List.length_take,aI];omega
 have he:∀x,0<x→x<L.length-1→aB ((dG L 0 (L.length-1)).take (L.length-1)) x=aB L x:=λx hx hx2=>by
  have:aB ((dG L 0 (L.length-1)).take (L.length-1)) x=aB (dG L 0 (L.length-1)) x:=by
   unfold aB;rw[List.getD_eq_getElem?_getD,List.getElem?_take,if_pos hx2,List.getD_eq_getElem?_getD]
  rw[this,bA om om,if_neg om,if_neg om]
 refine⟨om,λc c0 hc hcp=>?_,λh=>absurd h (Nat.lt_irrefl _)⟩;rw[he c c0 om,he _ om om];exact h c c0 om
structure Nd where
 k0:Nat
 k1:Nat
 up:Nat
 fl:Bool
 key:Int
 sz:Int
 fi:Nat
abbrev Sg:=Nat→Nd
def Sg.put (σ:Sg) (i:Nat) (x:Nd):Sg:=λj=>if j=i then x else σ j
theorem Sg.put_eq (σ:Sg) (i:Nat) (x:Nd):σ.put i x i=x:=if_pos rfl
theorem Sg.bE {i j:Nat} (σ:Sg) (x:Nd) (h:j≠i):σ.put i x j=σ j:=if_neg h
def Bf (σ:Sg) (i j:Nat):Prop:=(σ i).key<(σ j).key∨(σ i).key=(σ j).key∧i<j
instance (σ:Sg) (i j:Nat):Decidable (Bf σ i j):=by unfold Bf;infer_instance
theorem Bf.trans {σ:Sg} {a b c:Nat} (h:Bf σ a b) (k:Bf σ b c):Bf σ a c:=by unfold Bf at*;omega
theorem Bf.tri (σ:Sg) (a b:Nat):Bf σ a b∨a=b∨Bf σ b a:=by unfold Bf;omega
theorem Bf.irr {σ:Sg} {a:Nat} (h:Bf σ a a):False:=by unfold Bf at h;omega
def oL (σ:Sg) (L:List Nat) (m:Nat):Prop:=m∈L∧∀x∈L,x=m∨Bf σ m x
theorem oL.perm {σ:Sg} {L M:List Nat} {m:Nat} (h:oL σ L m) (p:∀x,x∈L↔x∈M):oL σ M m:=
 ⟨(p m).1 h.1,λx hx=>h.2 x ((p x).2 hx)⟩
theorem oL.one (σ:Sg) (v:Nat):oL σ [v] v:=⟨sj,λx hx=>.inl (by simpa using hx)⟩
theorem oL.join {σ:Sg} {L M:List Nat} {a b:Nat} (h:oL σ L a) (k:oL σ M b):oL σ (L++M) (if Bf σ b a then b else a):=by
 split
 ·rename_i c;refine⟨by simp[k.1],λx hx=>?_⟩
  rcases List.mem_append.1 hx with hx |hx
  ·rcases h.2 x hx with rfl |h1
   ·exact .inr c
   ·exact .inr (c.trans h1)
  ·exact k.2 x hx
 ·rename_i c;refine⟨by simp[h.1],λx hx=>?_⟩
  rcases List.mem_append.1 hx with hx |hx
  ·exact h.2 x hx
  ·rcases Bf.tri σ a b with h2 |h2 |h2
   ·rcases k.2 x hx with rfl |h1
    ·exact .inr h2
    ·exact .inr (h2.trans h1)
   ·subst h2;exact k.2 x hx
   ·exact absurd h2 c
theorem Bf.congr {σ τ:Sg} {a b:Nat} (ha:(τ a).key=(σ a).key) (hb:(τ b).key=(σ b).key):Bf τ a b↔Bf σ a b:=by unfold Bf;rw[ha,hb]
theorem oL.keys {σ τ:Sg} {L:List Nat} {m:Nat} (h:oL σ L m) (e:∀x∈L,(τ x).key=(σ x).key):oL τ L m:=
 ⟨h.1,λx hx=>(h.2 x hx).imp (λe=>e) λc=>(Bf.congr (e m h.1) (e x hx)).2 c⟩
inductive Tr where
 |nil
 |nd (f:Bool) (l:Tr) (v:Nat) (r:Tr)
def Tr.rt:Tr→Nat
 |.nil=>0
 |.nd _ _ v _=>v
def Tr.ns:Tr→List Nat
 |.nil=>[]
 |.nd _ l v r=>l.ns++v::r.ns
def Tr.ino:Tr→List Nat
 |.nil=>[]
 |.nd f l v r=>if f then(l.ino++v::r.ino).reverse else l.ino++v::r.ino
def Tr.zY:Tr→Tr
 |.nil=>.nil
 |.nd f l v r=>.nd (!f) l v r
theorem Tr.Eh (l:Tr) (v:Nat) (r:Tr):(Tr.nd false l v r).ino=l.ino++v::r.ino:=rfl
theorem Tr.JB (t:Tr):t.zY.ino=t.ino.reverse:=by
 cases t with
 |nil=>rfl
 |nd f l v r=>
  cases f
  ·rfl
  ·show l.ino++v::r.ino=((l.ino++v::r.ino).reverse).reverse;rw[List.reverse_reverse]
theorem Tr.ZR (f:Bool) (l:Tr) (v:Nat) (r:Tr):(Tr.nd f l v r).zY=.nd (!f) l v r:=rfl
theorem Tr.jS (t:Tr):t.zY.ns=t.ns:=by cases t<;>rfl
theorem Tr.FM (t:Tr):t.zY.rt=t.rt:=by cases t<;>rfl
theorem Tr.jX (t:Tr):t.ino.Perm t.ns:=by
 induction t with
 |nil=>exact .refl _
 |nd f l v r hl hr=>
  have h:(l.ino++v::r.ino).Perm (l.ns++v::r.ns):=hl.append (hr.cons v);cases f
  ·exact h
  ·exact(List.reverse_perm _).trans h
theorem Tr.bF {t:Tr} {x:Nat}:x∈t.ino↔x∈t.ns:=t.jX.mem_iff
theorem Tr.Bq (t:Tr):t.ino.length=t.ns.length:=t.jX.length_eq
theorem Tr.dH {t:Tr} (h:t≠.nil):t.rt∈t.ns:=by
 cases t with
 |nil=>exact absurd rfl h
 |nd f l v r=>simp[Tr.rt,Tr.ns]
theorem Tr.aY {f:Bool} {l r:Tr} {v x:Nat}:x∈(Tr.nd f l v r).ns↔x∈l.ns∨x=v∨x∈r.ns:=by simp[Tr.ns]
theorem Tr.ne_nil {t:Tr} {x:Nat} (h:x∈t.ns):t≠.nil:=λe=>by subst e;simp[Tr.ns] at h
def Lay (σ:Sg):Tr→Nat→Prop
 |.nil,_=>True
 |.nd f l v r,p=>v≠0∧(σ v).k0=l.rt∧(σ v).k1=r.rt∧(σ v).fl=f∧(σ v).up=p∧(σ v).sz=((Tr.nd f l v r).ns.length:Nat)∧oL σ (Tr.nd f l v r).ns (σ v).fi∧Lay σ l v∧Lay σ r v
theorem Lay.nz {σ:Sg}:∀{t:Tr} {p:Nat},Lay σ t p→∀x∈t.ns,x≠0
 |.nil,_,_,x,hx=>by simp[Tr.ns] at hx
 |.nd f l v r,p,h,x,hx=>by
  rcases Tr.aY.1 hx with hx |rfl |hx
  ·exact h.2.2.2.2.2.2.2.1.nz x hx
  ·exact h.1
  ·exact h.2.2.2.2.2.2.2.2.nz x hx
theorem Lay.keep {σ τ:Sg}:∀{t:Tr} {p:Nat},Lay σ t p→(∀x∈t.ns,τ x=σ x)→Lay τ t p
 |.nil,_,_,_=>trivial
 |.nd f l v r,p,h,e=>by
  obtain⟨h1,h2,h3,h4,h5,h6,h7,h8,h9⟩:=h;have hv:=e v (by simp[Tr.ns]);refine⟨h1,by rw[hv,h2],by rw[hv,h3],by rw[hv,h4],by rw[hv,h5],by rw[hv,h6],?_,h8.keep λx hx=>e x (Tr.aY.2 (.inl hx)),h9.keep λx hx=>e x (Tr.aY.2 (.inr (.inr hx)))⟩;rw[hv]
  exact h7.keys λx hx=>by rw[e x hx]
theorem Lay.Jw {σ τ:Sg} {t:Tr} {p q:Nat} (h:Lay σ t p) (e:∀x∈t.ns,x≠t.rt→τ x=σ x) (hn:t.ns.Nodup) (hr:t≠.nil→τ t.rt={ σ t.rt with up:=q }):Lay τ t q:=by
 cases t with
 |nil=>trivial
 |nd f l v r=>
  obtain⟨h1,h2,h3,h4,h5,h6,h7,h8,h9⟩:=h;have hv:τ v={ σ v with up:=q }:=hr (λc=>nomatch c);rw[Tr.ns,List.nodup_append] at hn;obtain⟨n1,n2,n3⟩:=hn;have n4:=List.nodup_cons.1 n2;refine⟨h1,by rw[hv,←h2],by rw[hv,←h3],by rw[hv,←h4],by rw[hv],by rw[hv,←h6],?_,h8.keep λx hx=>e x (Tr.aY.2 (.inl hx)) λc=>?_,h9.keep λx hx=>e x (Tr.aY.2 (.inr (.inr hx))) λc=>?_⟩
  ·rw[hv];refine oL.keys (σ:=σ) h7 λx hx=>?_
   by_cases hx2:x=v
   ·subst hx2;rw[hv]
   ·rw[e x hx hx2]
  ·exact n3 x hx v sj c
  ·exact n4.1 (by rw[show x=v from c] at hx;exact hx)
theorem Lay.kid {σ:Sg}:∀{t:Tr} {p:Nat},Lay σ t p→∀x∈t.ns,∀k,(k=(σ x).k0∨k=(σ x).k1)→k≠0→k∈t.ns∧(σ k).up=x∧(t.ns.Nodup→k≠t.rt∧k≠x)
 |.nil,_,_,x,hx,_,_,_=>by simp[Tr.ns] at hx
 |.nd f l v r,p,h,x,hx,k,hk,k0=>by
  obtain⟨h1,h2,h3,h4,h5,h6,h7,h8,h9⟩:=h
  have hn0:(Tr.nd f l v r).ns.Nodup→l.ns.Nodup∧r.ns.Nodup∧v∉l.ns∧v∉r.ns:=λhn=>by
   rw[Tr.ns,List.nodup_append] at hn;obtain⟨n1,n2,n3⟩:=hn;have n4:=List.nodup_cons.1 n2;exact⟨n1,n4.2,λc=>n3 v c v sj rfl,n4.1⟩
  rcases Tr.aY.1 hx with hx |rfl |hx
  ·obtain⟨a,b,c⟩:=h8.kid x hx k hk k0;exact⟨Tr.aY.2 (.inl a),b,λhn=>⟨λe=>(hn0 hn).2.2.1 (by rw[←show k=v from e];exact a),(c (hn0 hn).1).2⟩⟩
  ·rcases hk with hk |hk
   ·rw[h2] at hk
    have hl:l≠.nil:=λe=>by rw[e] at hk;exact k0 hk
    have hm:k∈l.ns:=by rw[hk];exact Tr.dH hl
    refine⟨Tr.aY.2 (.inl hm),?_,λhn=>⟨λe=>(hn0 hn).2.2.1 (by rw[←show k=x from e];exact hm),λe=>(hn0 hn).2.2.1 (by rw[←e];exact hm)⟩⟩
    cases l with
    |nil=>exact absurd rfl hl
    |nd f1 l1 v1 r1=>rw[hk];exact h8.2.2.2.2.1
   ·rw[h3] at hk
    have hl:r≠.nil:=λe=>by rw[e] at hk;exact k0 hk
    have hm:k∈r.ns:=by rw[hk];exact Tr.dH hl
    refine⟨Tr.aY.2 (.inr (.inr hm)),?_,λhn=>⟨λe=>(hn0 hn).2.2.2 (by rw[←show k=x from e];exact hm),λe=>(hn0 hn).2.2.2 (by rw[←e];exact hm)⟩⟩
    cases r with
    |nil=>exact absurd rfl hl
    |nd f1 l1 v1 r1=>rw[hk];exact h9.2.2.2.2.1
  ·obtain⟨a,b,c⟩:=h9.kid x hx k hk k0;exact⟨Tr.aY.2 (.inr (.inr a)),b,λhn=>⟨λe=>(hn0 hn).2.2.2 (by rw[←show k=v from e];exact a),(c (hn0 hn).2.1).2⟩⟩
def side (σ:Sg) (i:Nat):Option Bool:=
 if (σ i).up=0 then none else if (σ (σ i).up).k0=i then some false else if (σ (σ i).up).k1=i then some true else none
theorem Pf {σ:Sg} {i:Nat} (h:(σ i).up=0):side σ i=none:=if_pos h
theorem Pe {σ:Sg} {i:Nat} (h:(σ i).up≠0) (k:(σ (σ i).up).k0=i):side σ i=some false:=by rw[side,if_neg h,if_pos k]
theorem Pb {σ:Sg} {i:Nat} (h:(σ i).up≠0) (k:(σ (σ i).up).k0≠i) (k2:(σ (σ i).up).k1=i):side σ i=some true:=by rw[side,if_neg h,if_neg k,if_pos k2]
theorem Pd {σ:Sg} {i:Nat} (k:(σ (σ i).up).k0≠i) (k2:(σ (σ i).up).k1≠i):side σ i=none:=by
 unfold side;rw[if_neg k,if_neg k2];split<;>rfl
def dN (σ:Sg) (i:Nat):Sg:=
 if (σ i).fl=true then λj=>if j=i then{ σ i with fl:=false,k0:=(σ i).k1,k1:=(σ i).k0 } else if j≠0∧(j=(σ i).k0∨j=(σ i).k1) then{ σ j with fl:=!(σ j).fl } else σ j else σ
structure Ca (n:Nat) (σ:Sg) (i:Nat):Prop where
 le:i≤n
 l0:(σ i).k0≤n
 l1:(σ i).k1≤n
 n0:(σ i).k0≠i
 n1:(σ i).k1≠i
 ne:(σ i).k0=(σ i).k1→(σ i).k0=0
inductive tL (n:Nat):Sg→List Nat→Sg→Prop
 |nil (σ:Sg):tL n σ [] σ
 |cons {σ τ:Sg} {i:Nat} {L:List Nat} (h:Ca n σ i) (k:tL n (dN σ i) L τ):tL n σ (i::L) τ
structure qo (σ τ:Sg):Prop where
 key:∀x,(τ x).key=(σ x).key
 up:∀x,(τ x).up=(σ x).up
 sz:∀x,(τ x).sz=(σ x).sz
 fi:∀x,(τ x).fi=(σ x).fi
theorem qo.refl (σ:Sg):qo σ σ:=⟨λ_=>rfl,λ_=>rfl,λ_=>rfl,λ_=>rfl⟩
theorem qo.trans {σ τ ρ:Sg} (h:qo σ τ) (k:qo τ ρ):qo σ ρ:=
 ⟨λx=>(k.key x).trans (h.key x),λx=>(k.up x).trans (h.up x),λx=>(k.sz x).trans (h.sz x),λx=>(k.fi x).trans (h.fi x)⟩
theorem lZ (σ:Sg) (i:Nat):qo σ (dN σ i):=by
 unfold dN
 split
 ·constructor<;>intro x<;>dsimp only<;>(repeat' split)<;>simp_all
 ·exact .refl σ
def fb (b:Bool) (t:Tr):Tr:=if b then t.zY else t
theorem JL (b:Bool) (t:Tr):(fb b t).ns=t.ns:=by cases b<;>simp[fb,Tr.jS]
theorem XE (b:Bool) (t:Tr):(fb b t).rt=t.rt:=by cases b<;>simp[fb,Tr.FM]
theorem ZU (b:Bool) (t:Tr):(fb b t).ino=if b then t.ino.reverse else t.ino:=by cases b<;>simp[fb,Tr.JB]
def qB:Bool→Tr→Nat→Tr
 |_,.nil,_=>.nil
 |b,.nd f l v r,i=>
  if v=i then(if (f !=b)=true then .nd false r.zY v l.zY else .nd false l v r)
  else if i∈l.ns then(if (f !=b)=true then .nd false r.zY v (qB true l i) else .nd false (qB false l i) v r)
  else(if (f !=b)=true then .nd false (qB true r i) v l.zY else .nd false l v (qB false r i))
def yZ:Tr→Nat→List Nat
 |.nil,_=>[]
 |.nd _ l v r,i=>if v=i then[v] else if i∈l.ns then v::yZ l i else v::yZ r i
theorem Oe (b:Bool) (t:Tr) (i:Nat):(qB b t i).rt=t.rt:=by
 cases t with
 |nil=>rfl
 |nd f l v r=>unfold qB;(repeat' split)<;>rfl
theorem Aw (t:Tr) (i:Nat):∀b,(qB b t i).ns.Perm t.ns:=by
 induction t with
 |nil=>exact λ_=>.refl _
 |nd f l v r hl hr=>
  intro b
  have sw:∀A B:List Nat,(A++v::B).Perm (B++v::A):=λA B=>by
   refine List.perm_append_comm.trans ?_;rw[List.cons_append];exact List.perm_middle.symm
  unfold qB
  split
  ·split
   ·rw[Tr.ns,Tr.ns,Tr.jS,Tr.jS];exact sw _ _
   ·exact .refl _
  ·split
   ·split
    ·rw[Tr.ns,Tr.ns,Tr.jS];exact(sw _ _).trans ((hl true).append (.refl _))
    ·rw[Tr.ns,Tr.ns];exact(hl false).append (.refl _)
   ·split
    ·rw[Tr.ns,Tr.ns,Tr.jS];exact(sw _ _).trans ((List.Perm.refl _).append ((hr true).cons v))
    ·rw[Tr.ns,Tr.ns];exact(List.Perm.refl _).append ((hr false).cons v)
theorem IQ {t:Tr} {i x:Nat} {b:Bool}:x∈(qB b t i).ns↔x∈t.ns:=(Aw t i b).mem_iff
theorem Uo (t:Tr) (i:Nat):∀b,(qB b t i).ino=(fb b t).ino:=by
 induction t with
 |nil=>intro b;cases b<;>rfl
 |nd f l v r hl hr=>
  intro b;have hlt:=hl true;have hlf:=hl false;have hrt:=hr true;have hrf:=hr false;rw[ZU] at hlt hlf hrt hrf;unfold qB
  cases f<;>cases b<;>by_cases h1:v=i<;>by_cases h2:i∈l.ns<;>simp[h1,h2,fb,Tr.ino,Tr.ZR,Tr.JB,hlt,hlf,hrt,hrf]
theorem QO {n:Nat} {σ:Sg} {f:Bool} {l r:Tr} {v p:Nat} (h:Lay σ (.nd f l v r) p) (hn:(Tr.nd f l v r).ns.Nodup) (hle:∀x∈(Tr.nd f l v r).ns,x≤n):
  Ca n σ v∧Lay (dN σ v) (if f then .nd false r.zY v l.zY else .nd false l v r) p∧(∀x,x∉(Tr.nd f l v r).ns→dN σ v x=σ x):=by
 have hk:=h.kid v (by simp[Tr.ns]);obtain⟨h1,h2,h3,h4,h5,h6,h7,h8,h9⟩:=h;have hn':=hn;rw[Tr.ns,List.nodup_append] at hn';obtain⟨n1,n2,n3⟩:=hn';have n4:=List.nodup_cons.1 n2;have Es:∀x∈l.ns,x∉r.ns:=λx hx hy=>n3 x hx x (by simp[hy]) rfl;have hvl:v∉l.ns:=λc=>n3 v c v sj rfl
 have hrl:l.rt=0∨l.rt∈l.ns:=by
  cases l with
  |nil=>exact .inl rfl
  |nd=>exact .inr (by simp[Tr.rt,Tr.ns])
 have hrr:r.rt=0∨r.rt∈r.ns:=by
  cases r with
  |nil=>exact .inl rfl
  |nd=>exact .inr (by simp[Tr.rt,Tr.ns])
 have hlv:l.rt≠v:=λc=>by
  rcases hrl with e |e
  ·omega
  ·exact hvl (c▸e)
 have hrv:r.rt≠v:=λc=>by
  rcases hrr with e |e
  ·omega
  ·exact n4.1 (c▸e)
 refine⟨⟨hle v (by simp[Tr.ns]),?_,?_,by rw[h2];exact hlv,by rw[h3];exact hrv,?_⟩,?_,?_⟩
 ·rw[h2];rcases hrl with e |e
  ·rw[e];exact Nat.zero_le _
  ·exact hle _ (Tr.aY.2 (.inl e))
 ·rw[h3];rcases hrr with e |e
  ·rw[e];exact Nat.zero_le _
  ·exact hle _ (Tr.aY.2 (.inr (.inr e)))
 ·rw[h2,h3];intro e
  rcases hrl with c |c
  ·exact c
  ·rcases hrr with d |d
   ·rw[e];exact d
   ·exact absurd d (Es _ (e▸c))
 ·have ac9:∀t:Tr,Lay σ t v→(∀x∈t.ns,x≠v)→t.ns.Nodup→(∀x∈t.ns,x≠0)→(∀x∈t.ns,x≠t.rt→x≠l.rt∧x≠r.rt)→(t≠.nil→t.rt=l.rt∨t.rt=r.rt)→(σ v).fl=true→Lay (dN σ v) t.zY v:=by
   intro t ht hv hnd h0 hx hr2 hf
   cases t with
   |nil=>trivial
   |nd g a y c=>
    obtain⟨g1,g2,g3,g4,g5,g6,g7,g8,g9⟩:=ht;have hnd':=hnd;rw[Tr.ns,List.nodup_append] at hnd';obtain⟨m1,m2,m3⟩:=hnd';have m4:=List.nodup_cons.1 m2;have hy0:y≠0:=g1;have hyv:y≠v:=hv y (by simp[Tr.ns]);have hyr:=hr2 (λe=>nomatch e)
    have ey:dN σ v y={ σ y with fl:=!(σ y).fl }:=by
     unfold dN;rw[if_pos hf];simp only;rw[if_neg hyv,if_pos ⟨hy0,by rw[h2,h3];exact hyr⟩]
    have eo:∀x∈(Tr.nd g a y c).ns,x≠y→dN σ v x=σ x:=λx hx3 hxy=>by
     unfold dN;rw[if_pos hf];simp only;rw[if_neg (hv x hx3),if_neg];rw[h2,h3];exact λe=>oC (hx x hx3 hxy)
    refine⟨g1,by rw[ey,←g2],by rw[ey,←g3],by rw[ey,←g4],by rw[ey,←g5],by rw[ey];exact g6,?_,?_,?_⟩
    ·rw[ey];exact oL.keys (σ:=σ) g7 λx _=>(lZ σ v).key x
    ·exact g8.keep λx hx3=>eo x (Tr.aY.2 (.inl hx3)) λe=>m3 x hx3 y sj e
    ·exact g9.keep λx hx3=>eo x (Tr.aY.2 (.inr (.inr hx3))) λe=>m4.1 (e▸hx3)
  cases f with
  |false=>
   have e:dN σ v=σ:=if_neg (by rw[h4];exact Bool.false_ne_true);rw[e];exact⟨h1,h2,h3,h4,h5,h6,h7,h8,h9⟩
  |true=>
   have ev:dN σ v v={ σ v with fl:=false,k0:=(σ v).k1,k1:=(σ v).k0 }:=by unfold dN;rw[if_pos h4];exact if_pos rfl
   refine⟨h1,by rw[ev];exact h3.trans r.FM.symm,by rw[ev];exact h2.trans l.FM.symm,by rw[ev],by rw[ev];exact h5,?_,?_,?_,?_⟩
   ·rw[ev];show(σ v).sz=_;rw[h6,Tr.ns,Tr.ns,Tr.jS,Tr.jS,List.length_append,List.length_append,List.length_cons,List.length_cons];omega
   ·rw[ev];refine oL.keys (σ:=σ) (h7.perm λx=>?_) λx _=>(lZ σ v).key x;rw[Tr.aY,Tr.aY,Tr.jS,Tr.jS];exact⟨λe=>e.elim (λe=>.inr (.inr e)) (λe=>e.elim (λe=>.inr (.inl e)) .inl),λe=>e.elim (λe=>.inr (.inr e)) (λe=>e.elim (λe=>.inr (.inl e)) .inl)⟩
   ·refine ac9 r h9 (λx hx e=>n4.1 (e▸hx)) n4.2 h9.nz (λx hx e=>⟨λe2=>?_,e⟩) (λ_=>.inr rfl) h4
    rcases hrl with c |c
    ·exact h9.nz x hx (e2.trans c)
    ·exact Es _ c (e2▸hx)
   ·refine ac9 l h8 (λx hx e=>hvl (e▸hx)) n1 h8.nz (λx hx e=>⟨e,λe2=>?_⟩) (λ_=>.inl rfl) h4
    rcases hrr with c |c
    ·exact h8.nz x hx (e2.trans c)
    ·exact Es _ (e2▸hx) c
 ·intro x hx;unfold dN
  split
  ·have a1:x≠v:=λe=>hx (by rw[e];simp[Tr.ns]);simp only;rw[if_neg a1,if_neg];rw[h2,h3];rintro⟨x0,e |e⟩
   ·rcases hrl with c |c
    ·exact x0 (e.trans c)
    ·exact hx (Tr.aY.2 (.inl (e▸c)))
   ·rcases hrr with c |c
    ·exact x0 (e.trans c)
    ·exact hx (Tr.aY.2 (.inr (.inr (e▸c))))
  ·rfl
theorem Vs {n:Nat} {i:Nat} (t:Tr):∀(b:Bool) (σ:Sg) (p:Nat),Lay σ (fb b t) p→t.ns.Nodup→(∀x∈t.ns,x≤n)→i∈t.ns→
  ∃τ,tL n σ (yZ t i) τ∧Lay τ (qB b t i) p∧(∀x,x∉t.ns→τ x=σ x)∧qo σ τ:=by
 induction t with
 |nil=>intro b σ p _ _ _ hi;simp[Tr.ns] at hi
 |nd f l v r ihl ihr=>
  intro b σ p h hn hle hi;have hn':=hn;rw[Tr.ns,List.nodup_append] at hn';obtain⟨n1,n2,n3⟩:=hn';have n4:=List.nodup_cons.1 n2;have hvl:v∉l.ns:=λc=>n3 v c v sj rfl
  have hfb:fb b (.nd f l v r)=.nd (f !=b) l v r:=by cases b<;>cases f<;>rfl
  rw[hfb] at h;obtain⟨q1,q2,q3⟩:=QO (n:=n) h hn hle
  by_cases h1:v=i
  ·have e1:yZ (.nd f l v r) i=[v]:=by rw[yZ,if_pos h1]
   have e2:qB b (.nd f l v r) i=if (f !=b)=true then .nd false r.zY v l.zY else .nd false l v r:=by rw[qB,if_pos h1]
   exact⟨dN σ v,by rw[e1];exact .cons q1 (.nil _),by rw[e2];exact q2,q3,lZ σ v⟩
  ·--below:one kid goes on,the other stays
   have down:∀(k o:Tr) (bb:Bool),Lay (dN σ v) (fb bb k) v→k.ns.Nodup→(∀x∈k.ns,x≤n)→i∈k.ns→(∀x∈k.ns,x∈(Tr.nd f l v r).ns)→v∉k.ns→(∀x∈o.ns,x∉k.ns)→
     (∀(b2:Bool) (σ:Sg) (p:Nat),Lay σ (fb b2 k) p→k.ns.Nodup→(∀x∈k.ns,x≤n)→i∈k.ns→∃τ,tL n σ (yZ k i) τ∧Lay τ (qB b2 k i) p∧(∀x,x∉k.ns→τ x=σ x)∧qo σ τ)→
     ∃τ,tL n σ (v::yZ k i) τ∧(Lay (dN σ v) (.nd false (fb bb k) v o) p→Lay τ (.nd false (qB bb k i) v o) p)∧(Lay (dN σ v) (.nd false o v (fb bb k)) p→Lay τ (.nd false o v (qB bb k i)) p)∧(∀x,x∉(Tr.nd f l v r).ns→τ x=σ x)∧qo σ τ:=by
    intro k o bb hk hkn hkl hik hks hvk hok IH;obtain⟨τ,t1,t2,t3,t4⟩:=IH bb _ v hk hkn hkl hik;have hB:=(lZ σ v).trans t4;refine⟨τ,.cons q1 t1,?_,?_,λx hx=>(t3 x λc=>hx (hks x c)).trans (q3 x hx),hB⟩
    ·rintro⟨g1,g2,g3,g4,g5,g6,g7,g8,g9⟩;have ev:=t3 v hvk;refine⟨g1,by rw[ev,g2,Oe,XE],by rw[ev,g3],by rw[ev,g4],by rw[ev,g5],?_,?_,t2,g9.keep λx hx=>t3 x (hok x hx)⟩
     ·rw[ev,g6,Tr.ns,Tr.ns,List.length_append,List.length_append,(Aw k i bb).length_eq,JL]
     ·rw[ev];refine oL.keys (σ:=dN σ v) (g7.perm λx=>?_) λx _=>t4.key x;rw[Tr.aY,Tr.aY,IQ,JL]
    ·rintro⟨g1,g2,g3,g4,g5,g6,g7,g8,g9⟩;have ev:=t3 v hvk;refine⟨g1,by rw[ev,g2],by rw[ev,g3,Oe,XE],by rw[ev,g4],by rw[ev,g5],?_,?_,g8.keep λx hx=>t3 x (hok x hx),t2⟩
     ·rw[ev,g6,Tr.ns,Tr.ns,List.length_append,List.length_append,List.length_cons,List.length_cons,(Aw k i bb).length_eq,JL]
     ·rw[ev];refine oL.keys (σ:=dN σ v) (g7.perm λx=>?_) λx _=>t4.key x;rw[Tr.aY,Tr.aY,IQ,JL]
   have hll:∀x∈l.ns,x∈(Tr.nd f l v r).ns:=λx hx=>Tr.aY.2 (.inl hx);have hrr:∀x∈r.ns,x∈(Tr.nd f l v r).ns:=λx hx=>Tr.aY.2 (.inr (.inr hx));have Es:∀x∈r.ns,x∉l.ns:=λx hx hy=>n3 x hy x (by simp[hx]) rfl
   by_cases h2:i∈l.ns
   ·have e1:yZ (.nd f l v r) i=v::yZ l i:=by rw[yZ,if_neg h1,if_pos h2]
    by_cases h3:(f !=b)=true
    ·have e2:qB b (.nd f l v r) i=.nd false r.zY v (qB true l i):=by rw[qB,if_neg h1,if_pos h2,if_pos h3]
     rw[h3,if_pos rfl] at q2;obtain⟨τ,t1,_,t3,t4,t5⟩:=down l r.zY true q2.2.2.2.2.2.2.2.2 n1 (λx hx=>hle x (hll x hx)) h2 hll hvl (λx hx=>Es x (by rw[Tr.jS] at hx;exact hx)) ihl;exact⟨τ,by rw[e1];exact t1,by rw[e2];exact t3 q2,t4,t5⟩
    ·have e2:qB b (.nd f l v r) i=.nd false (qB false l i) v r:=by rw[qB,if_neg h1,if_pos h2,if_neg h3]
     rw[Bool.not_eq_true] at h3;rw[h3] at q2;obtain⟨τ,t1,t3,_,t4,t5⟩:=down l r false q2.2.2.2.2.2.2.2.1 n1 (λx hx=>hle x (hll x hx)) h2 hll hvl Es ihl;exact⟨τ,by rw[e1];exact t1,by rw[e2];exact t3 q2,t4,t5⟩
   ·have hir:i∈r.ns:=by
     rcases Tr.aY.1 hi with e |e |e
     ·exact absurd e h2
     ·exact absurd e.symm h1
     ·exact e
    have e1:yZ (.nd f l v r) i=v::yZ r i:=by rw[yZ,if_neg h1,if_neg h2]
    by_cases h3:(f !=b)=true
    ·have e2:qB b (.nd f l v r) i=.nd false (qB true r i) v l.zY:=by rw[qB,if_neg h1,if_neg h2,if_pos h3]
     rw[h3,if_pos rfl] at q2;obtain⟨τ,t1,t3,_,t4,t5⟩:=down r l.zY true q2.2.2.2.2.2.2.2.1 n4.2 (λx hx=>hle x (hrr x hx)) hir hrr n4.1 (λx hx hy=>Es x hy (by rw[Tr.jS] at hx;exact hx)) ihr;exact⟨τ,by rw[e1];exact t1,by rw[e2];exact t3 q2,t4,t5⟩
    ·have e2:qB b (.nd f l v r) i=.nd false l v (qB false r i):=by rw[qB,if_neg h1,if_neg h2,if_neg h3]
     rw[Bool.not_eq_true] at h3;rw[h3] at q2;obtain⟨τ,t1,_,t3,t4,t5⟩:=down r l false q2.2.2.2.2.2.2.2.2 n4.2 (λx hx=>hle x (hrr x hx)) hir hrr n4.1 (λx hx hy=>Es x hy hx) ihr;exact⟨τ,by rw[e1];exact t1,by rw[e2];exact t3 q2,t4,t5⟩
def Nd.kd (x:Nd) (s:Bool):Nat:=if s then x.k1 else x.k0
def Nd.nP (x:Nd) (s:Bool) (k:Nat):Nd:=if s then{ x with k1:=k } else{ x with k0:=k }
section
variable (x:Nd) (s:Bool) (k:Nat)
theorem Nd.AQ:(x.nP s k).kd s=k:=by cases s<;>rfl
theorem Nd.I9:(x.nP s k).kd (!s)=x.kd (!s):=by cases s<;>rfl
theorem Nd.Po:(x.nP (!s) k).kd s=x.kd s:=by cases s<;>rfl
theorem Nd.I8:(x.nP s k).up=x.up:=by cases s<;>rfl
theorem Nd.AP:(x.nP s k).fl=x.fl:=by cases s<;>rfl
theorem Nd.Pp:(x.nP s k).key=x.key:=by cases s<;>rfl
theorem Nd.UC:(x.nP s k).sz=x.sz:=by cases s<;>rfl
theorem Nd.UD:(x.nP s k).fi=x.fi:=by cases s<;>rfl
theorem Nd.JA (u:Nat):({ x with up:=u }:Nd).kd s=x.kd s:=by cases s<;>rfl
end
def aO (σ:Sg) (i:Nat) (s:Bool) (k:Nat):Sg:=
 if k=0 then σ.put i ((σ i).nP s k) else(σ.put i ((σ i).nP s k)).put k { (σ.put i ((σ i).nP s k)) k with up:=i }
theorem nY {σ:Sg} {i k x:Nat} (s:Bool) (h1:x≠i) (h2:x≠k):aO σ i s k x=σ x:=by
 unfold aO;split
 ·exact Sg.bE _ _ h1
 ·rw[Sg.bE _ _ h2,Sg.bE _ _ h1]
theorem BF {σ:Sg} {i k:Nat} (s:Bool) (h:i≠k):aO σ i s k i=(σ i).nP s k:=by
 unfold aO;split
 ·exact Sg.put_eq _ _ _
 ·rw[Sg.bE _ _ h,Sg.put_eq]
theorem BD {σ:Sg} {i k:Nat} (s:Bool) (h:k≠i) (h0:k≠0):aO σ i s k k={ σ k with up:=i }:=by
 unfold aO;rw[if_neg h0,Sg.put_eq,Sg.bE _ _ h]
theorem uM (σ:Sg) (i:Nat) (s:Bool) (k x:Nat):(aO σ i s k x).key=(σ x).key:=by
 have h1:∀y,((σ.put i ((σ i).nP s k)) y).key=(σ y).key:=λy=>by
  by_cases c:y=i
  ·rw[c,Sg.put_eq,Nd.Pp]
  ·rw[Sg.bE _ _ c]
 unfold aO;split
 ·exact h1 x
 ·by_cases c:x=k
  ·rw[c,Sg.put_eq];exact h1 k
  ·rw[Sg.bE _ _ c];exact h1 x
def Fe (σ:Sg) (k:Nat):Int:=if k=0 then 0 else(σ k).sz
def GU (σ:Sg) (m k:Nat):Nat:=if k=0 then m else if Bf σ (σ k).fi m then(σ k).fi else m
def dM (σ:Sg) (i:Nat):Sg:=σ.put i { σ i with sz:=1+Fe σ (σ i).k0+Fe σ (σ i).k1,fi:=GU σ (GU σ i (σ i).k0) (σ i).k1 }
theorem eX {σ:Sg} {i x:Nat} (h:x≠i):dM σ i x=σ x:=Sg.bE _ _ h
theorem Px (σ:Sg) (i:Nat):(dM σ i i).k0=(σ i).k0∧(dM σ i i).k1=(σ i).k1∧(dM σ i i).up=(σ i).up∧(dM σ i i).fl=(σ i).fl∧(dM σ i i).key=(σ i).key:=by
 unfold dM;rw[Sg.put_eq];exact⟨rfl,rfl,rfl,rfl,rfl⟩
theorem jl (σ:Sg) (i x:Nat):(dM σ i x).key=(σ x).key:=by
 by_cases c:x=i
 ·rw[c];exact(Px σ i).2.2.2.2
 ·rw[eX c]
structure kN (n:Nat) (σ:Sg) (i:Nat):Prop where
 nz:i≠0
 le:i≤n
 l0:(σ i).k0≤n
 l1:(σ i).k1≤n
 n0:(σ i).k0≠i
 n1:(σ i).k1≠i
 s0:(σ i).k0≠0→0≤(σ (σ i).k0).sz∧(σ (σ i).k0).sz≤n∧(σ (σ i).k0).fi≤n
 s1:(σ i).k1≠0→0≤(σ (σ i).k1).sz∧(σ (σ i).k1).sz≤n∧(σ (σ i).k1).fi≤n
def mkT (s:Bool) (x:Tr) (v:Nat) (y:Tr):Tr:=if s then .nd false y v x else .nd false x v y
theorem Bg (s:Bool) (x:Tr) (v:Nat) (y:Tr):(mkT s x v y).rt=v:=by cases s<;>rfl
theorem jU (s:Bool) (x:Tr) (v:Nat) (y:Tr):(mkT s x v y).ns.Perm (v::(x.ns++y.ns)):=by
 cases s
 ·exact List.perm_middle
 ·exact List.perm_middle.trans (List.perm_append_comm.cons v)
theorem vY {s:Bool} {x:Tr} {v:Nat} {y:Tr} {z:Nat}:z∈(mkT s x v y).ns↔z=v∨z∈x.ns∨z∈y.ns:=by
 rw[(jU s x v y).mem_iff,List.mem_cons,List.mem_append]
theorem Vg (s:Bool) (x:Tr) (v:Nat) (y:Tr):(mkT s x v y).ns.length=x.ns.length+y.ns.length+1:=by
 rw[(jU s x v y).length_eq,List.length_cons,List.length_append]
theorem mD {σ:Sg} {s:Bool} {x y:Tr} {v p:Nat}:Lay σ (mkT s x v y) p↔
  v≠0∧(σ v).kd s=x.rt∧(σ v).kd (!s)=y.rt∧(σ v).fl=false∧(σ v).up=p∧(σ v).sz=((x.ns.length+y.ns.length+1:Nat):Int)∧oL σ (v::(x.ns++y.ns)) (σ v).fi∧Lay σ x v∧Lay σ y v:=by
 have hp:=jU s x v y;have hF:oL σ (mkT s x v y).ns (σ v).fi↔oL σ (v::(x.ns++y.ns)) (σ v).fi:=⟨λh=>h.perm λz=>hp.mem_iff,λh=>h.perm λz=>hp.mem_iff.symm⟩;have hL:=Vg s x v y;cases s
 ·show(v≠0∧(σ v).k0=x.rt∧(σ v).k1=y.rt∧(σ v).fl=false∧(σ v).up=p∧(σ v).sz=((mkT false x v y).ns.length:Nat)∧oL σ (mkT false x v y).ns (σ v).fi∧Lay σ x v∧Lay σ y v)↔_;rw[hL,hF];exact Iff.rfl
 ·show(v≠0∧(σ v).k0=y.rt∧(σ v).k1=x.rt∧(σ v).fl=false∧(σ v).up=p∧(σ v).sz=((mkT true x v y).ns.length:Nat)∧oL σ (mkT true x v y).ns (σ v).fi∧Lay σ y v∧Lay σ x v)↔_;rw[hL,hF];exact⟨λ⟨a1,a2,a3,a4,a5,a6,a7,a8,a9⟩=>⟨a1,a3,a2,a4,a5,a6,a7,a9,a8⟩,λ⟨a1,a2,a3,a4,a5,a6,a7,a8,a9⟩=>⟨a1,a3,a2,a4,a5,a6,a7,a9,a8⟩⟩
theorem Lay.root {σ:Sg} {t:Tr} {p:Nat} (h:Lay σ t p) (hn:t≠.nil):(σ t.rt).up=p∧(σ t.rt).sz=(t.ns.length:Nat)∧oL σ t.ns (σ t.rt).fi∧t.rt≠0:=by
 cases t with
 |nil=>exact absurd rfl hn
 |nd f l v r=>exact⟨h.2.2.2.2.1,h.2.2.2.2.2.1,h.2.2.2.2.2.2.1,h.1⟩
theorem qN {n:Nat} {L:List Nat} (hn:L.Nodup) (h:∀x∈L,x≠0∧x≤n):L.length≤n:=by
 have h1:(0::L).length≤n+1:=jT (List.nodup_cons.2 ⟨λc=>(h 0 c).1 rfl,hn⟩) λx hx=>by
  rcases List.mem_cons.1 hx with rfl |hx
  ·omega
  ·have:=(h x hx).2;omega
 rw[List.length_cons] at h1;omega
theorem QW {n:Nat} {σ:Sg} {t:Tr} {p:Nat} (h:Lay σ t p) (hn:t.ns.Nodup) (hle:∀x∈t.ns,x≤n):t.rt≤n∧(t.rt≠0→0≤(σ t.rt).sz∧(σ t.rt).sz≤n∧(σ t.rt).fi≤n):=by
 by_cases c:t=.nil
 ·subst c;exact⟨Nat.zero_le _,λe=>absurd rfl e⟩
 ·obtain⟨_,h2,h3,_⟩:=h.root c;have h4:=qN hn λx hx=>⟨h.nz x hx,hle x hx⟩;exact⟨hle _ (Tr.dH c),λ_=>⟨om,om,hle _ h3.1⟩⟩
theorem JK {σ:Sg} {t:Tr} {p m:Nat} {L:List Nat} (h:Lay σ t p) (hL:oL σ L m):oL σ (L++t.ns) (GU σ m t.rt):=by
 unfold GU
 by_cases c:t=.nil
 ·subst c;simpa [Tr.rt,Tr.ns] using hL
 ·obtain⟨_,_,h3,h4⟩:=h.root c;rw[if_neg h4];exact hL.join h3
theorem IX {σ:Sg} {t:Tr} {p:Nat} (h:Lay σ t p):Fe σ t.rt=(t.ns.length:Nat):=by
 unfold Fe
 by_cases c:t=.nil
 ·subst c;rfl
 ·obtain⟨_,h2,_,h4⟩:=h.root c;rw[if_neg h4,h2]
theorem lK {n:Nat} {σ:Sg} {s:Bool} {x y:Tr} {v p:Nat} (h0:v≠0) (hv:v≤n) (hx:(σ v).kd s=x.rt) (hy:(σ v).kd (!s)=y.rt) (hf:(σ v).fl=false) (hp:(σ v).up=p)
  (lx:Lay σ x v) (ly:Lay σ y v) (nx:x.ns.Nodup) (ny:y.ns.Nodup) (vx:v∉x.ns) (vy:v∉y.ns) (ex:∀z∈x.ns,z≤n) (ey:∀z∈y.ns,z≤n):
  kN n σ v∧Lay (dM σ v) (mkT s x v y) p:=by
 have key:∀a b:Tr,(σ v).k0=a.rt→(σ v).k1=b.rt→Lay σ a v→Lay σ b v→a.ns.Nodup→b.ns.Nodup→v∉a.ns→v∉b.ns→(∀z∈a.ns,z≤n)→(∀z∈b.ns,z≤n)→kN n σ v∧Lay (dM σ v) (.nd false a v b) p:=by
  intro a b ha hb la lb na nb va vb ea eb;obtain⟨ka,ka2⟩:=QW la na ea;obtain⟨kb,kb2⟩:=QW lb nb eb;obtain⟨r1,r2,r3,r4,r5⟩:=Px σ v
  have nv:∀t:Tr,v∉t.ns→t.rt≠v:=λt ht e=>by
   by_cases c:t=.nil
   ·subst c;exact h0 e.symm
   ·exact ht (e▸Tr.dH c)
  refine⟨⟨h0,hv,by rw[ha];exact ka,by rw[hb];exact kb,by rw[ha];exact nv a va,by rw[hb];exact nv b vb,by rw[ha];exact ka2,by rw[hb];exact kb2⟩,h0,r1.trans ha,r2.trans hb,r4.trans hf,r3.trans hp,?_,?_,la.keep λz hz=>eX λe=>va (e▸hz),lb.keep λz hz=>eX λe=>vb (e▸hz)⟩
  ·have e1:(dM σ v v).sz=1+Fe σ (σ v).k0+Fe σ (σ v).k1:=by unfold dM;rw[Sg.put_eq]
   rw[e1,ha,hb,IX la,IX lb,Tr.ns,List.length_append,List.length_cons];omega
  ·have e1:(dM σ v v).fi=GU σ (GU σ v (σ v).k0) (σ v).k1:=by unfold dM;rw[Sg.put_eq]
   rw[e1,ha,hb];refine oL.keys (σ:=σ) ?_ λz _=>jl σ v z;refine(JK lb (JK la (oL.one σ v))).perm λz=>?_;rw[Tr.ns];simp only[List.mem_append,List.mem_cons,List.not_mem_nil,or_false];exact⟨λe=>e.elim (λe=>e.elim (λe=>.inr (.inl e)) .inl) (λe=>.inr (.inr e)),λe=>e.elim (λe=>.inl (.inr e)) (λe=>e.elim (λe=>.inl (.inl e)) .inr)⟩
 cases s
 ·exact key x y hx hy lx ly nx ny vx vy ex ey
 ·exact key y x hy hx ly lx ny nx vy vx ey ex
structure Fr where
 sd:Bool
 v:Nat
 s:Tr
def plug:List Fr→Tr→Tr
 |[],t=>t
 |⟨sd,v,s⟩::c,t=>plug c (mkT sd t v s)
theorem oO (c:List Fr) (sd:Bool) (v:Nat) (s:Tr):∀t,plug (c++[⟨sd,v,s⟩]) t=mkT sd (plug c t) v s:=by
 induction c with
 |nil=>exact λ_=>rfl
 |cons q c ih=>exact λt=>ih _
def vN:List Fr→List Nat
 |[]=>[]
 |⟨_,v,s⟩::c=>v::(s.ns++vN c)
theorem UY (c:List Fr):∀t,(plug c t).ns.Perm (t.ns++vN c):=by
 induction c with
 |nil=>intro t;rw[vN,List.append_nil];exact .refl _
 |cons q c ih=>
  obtain⟨sd,v,s⟩:=q;intro t;refine(ih _).trans ?_;refine((jU sd t v s).append (.refl _)).trans ?_;rw[vN,List.cons_append,List.append_assoc];exact List.perm_middle.symm
def G9:List Fr→Nat→Nat
 |[],u=>u
 |⟨_,v,_⟩::_,_=>v
def Cx (σ:Sg):List Fr→Nat→List Nat→Nat→Prop
 |[],_,_,_=>True
 |⟨sd,v,s⟩::c,r,N,u=>v≠0∧(σ v).kd sd=r∧(σ v).kd (!sd)=s.rt∧(σ v).fl=false∧(σ v).up=G9 c u∧(σ v).sz=((N.length+s.ns.length+1:Nat):Int)∧oL σ (v::(N++s.ns)) (σ v).fi∧Lay σ s v∧Cx σ c v (v::(N++s.ns)) u
theorem Cx.perm {σ:Sg}:∀{c:List Fr} {r u:Nat} {N M:List Nat},Cx σ c r N u→N.Perm M→Cx σ c r M u
 |[],_,_,_,_,_,_=>trivial
 |⟨sd,v,s⟩::c,r,u,N,M,h,p=>by
  obtain⟨h1,h2,h3,h4,h5,h6,h7,h8,h9⟩:=h;have q:(v::(N++s.ns)).Perm (v::(M++s.ns)):=(p.append (.refl _)).cons v;exact⟨h1,h2,h3,h4,h5,by rw[h6,p.length_eq],h7.perm λx=>q.mem_iff,h8,h9.perm q⟩
theorem Cx.keep {σ τ:Sg}:∀{c:List Fr} {r u:Nat} {N:List Nat},Cx σ c r N u→(∀x∈vN c,τ x=σ x)→(∀x,(τ x).key=(σ x).key)→Cx τ c r N u
 |[],_,_,_,_,_,_=>trivial
 |⟨sd,v,s⟩::c,r,u,N,h,e,k=>by
  obtain⟨h1,h2,h3,h4,h5,h6,h7,h8,h9⟩:=h;have ev:=e v (by simp[vN]);exact⟨h1,by rw[ev,h2],by rw[ev,h3],by rw[ev,h4],by rw[ev,h5],by rw[ev,h6],by rw[ev];exact h7.keys λx _=>k x,h8.keep λx hx=>e x (by simp[vN,hx]),h9.keep (λx hx=>e x (by simp[vN,hx])) k⟩
theorem wZ {σ:Sg}:∀(c:List Fr) {t:Tr} {u:Nat},Lay σ (plug c t) u↔Lay σ t (G9 c u)∧Cx σ c t.rt t.ns u
 |[],t,u=>⟨λh=>⟨h,trivial⟩,λh=>h.1⟩
 |⟨sd,v,s⟩::c,t,u=>by
  have ih:=wZ (σ:=σ) c (t:=mkT sd t v s) (u:=u);rw[Bg] at ih;constructor
  ·intro h;obtain⟨a,b⟩:=ih.1 h;obtain⟨a1,a2,a3,a4,a5,a6,a7,a8,a9⟩:=mD.1 a;exact⟨a8,a1,a2,a3,a4,a5,a6,a7,a9,b.perm (jU sd t v s)⟩
  ·rintro⟨a8,a1,a2,a3,a4,a5,a6,a7,a9,b⟩;exact ih.2 ⟨mD.2 ⟨a1,a2,a3,a4,a5,a6,a7,a8,a9⟩,b.perm (jU sd t v s).symm⟩
def jQ (σ:Sg) (i:Nat):Sg:=
 match side σ (σ i).up with
 |some ab=>aO σ (σ (σ i).up).up ab i
 |none=>σ.put i { σ i with up:=(σ (σ i).up).up }
def jP (σ:Sg) (i:Nat) (s:Bool):Sg:=aO (jQ σ i) (σ i).up s ((jQ σ i i).kd (!s))
def fI (σ:Sg) (i:Nat) (s:Bool):Sg:=aO (jP σ i s) i (!s) (σ i).up
def fB (σ:Sg) (i:Nat) (s:Bool):Sg:=dM (dM (fI σ i s) (σ i).up) i
structure ni (n:Nat) (σ:Sg) (i:Nat) (s:Bool):Prop where
 sd:side σ i=some s
 li:i≤n
 lp:(σ i).up≤n
 lg:(σ (σ i).up).up≤n
 lk:(jQ σ i i).kd (!s)≤n
 rp:kN n (fI σ i s) (σ i).up
 ri:kN n (dM (fI σ i s) (σ i).up) i
theorem Mh {σ:Sg} {i k x:Nat} (s:Bool) (h1:x≠i) (h2:k=0∨x≠k):aO σ i s k x=σ x:=by
 rcases h2 with h2 |h2
 ·unfold aO;rw[if_pos h2];exact Sg.bE _ _ h1
 ·exact nY s h1 h2
theorem Pv (σ:Sg) (i x:Nat):(jQ σ i x).key=(σ x).key:=by
 unfold jQ
 cases side σ (σ i).up with
 |some ab=>exact uM _ _ _ _ _
 |none=>
  by_cases c:x=i
  ·rw[c];show(σ.put i _ i).key=_;rw[Sg.put_eq]
  ·show(σ.put i _ x).key=_;rw[Sg.bE _ _ c]
theorem jO (σ:Sg) (i:Nat) (s:Bool) (x:Nat):(fB σ i s x).key=(σ x).key:=by
 unfold fB fI jP;rw[jl,jl,uM,uM,Pv]
theorem vR {σ:Sg} {i:Nat} {s:Bool} (h0:(σ i).up≠0) (h1:(σ (σ i).up).kd s=i) (h2:(σ (σ i).up).kd (!s)≠i):side σ i=some s:=by
 cases s
 ·exact Pe h0 h1
 ·exact Pb h0 h2 h1
def y9 (σ:Sg) (u:Nat) (N:List Nat):Prop:=u∉N∧(u=0∨∀x∈N,(σ u).k0≠x∧(σ u).k1≠x)
theorem rF {σ:Sg} {u i:Nat} {N:List Nat} (h:y9 σ u N) (hi:i∈N) (hu:(σ i).up=u):side σ i=none:=by
 rcases h.2 with c |c
 ·exact Pf (hu.trans c)
 ·have:=c i hi;exact Pd (by rw[hu];exact this.1) (by rw[hu];exact this.2)
theorem y9.keep {σ τ:Sg} {u:Nat} {N M:List Nat} (h:y9 σ u N) (e:∀x,x∉N→τ x=σ x) (p:∀x∈M,x∈N):y9 τ u M:=
 ⟨λc=>h.1 (p u c),h.2.imp (λe=>e) λc x hx=>by rw[e u h.1];exact c x (p x hx)⟩
theorem lY {n:Nat} {σ:Sg} {sd:Bool} {p i u:Nat} {s A B:Tr} {c:List Fr}
  (L:Lay σ (plug (⟨sd,p,s⟩::c) (mkT sd A i B)) u) (hn:(plug (⟨sd,p,s⟩::c) (mkT sd A i B)).ns.Nodup)
  (hle:∀x∈(plug (⟨sd,p,s⟩::c) (mkT sd A i B)).ns,x≤n) (ht:y9 σ u (plug (⟨sd,p,s⟩::c) (mkT sd A i B)).ns) (hu:u≤n):
  ni n σ i sd∧(σ i).up=p∧(c=[]→side σ p=none)∧(∀q c2,c=q::c2→side σ p=some q.sd)∧Lay (fB σ i sd) (plug c (mkT sd A i (mkT sd B p s))) u∧
  (∀x,x∉(plug (⟨sd,p,s⟩::c) (mkT sd A i B)).ns→fB σ i sd x=σ x):=by
 have hP:(plug (⟨sd,p,s⟩::c) (mkT sd A i B)).ns.Perm (i::p::(A.ns++(B.ns++(s.ns++vN c)))):=by
  refine(UY _ _).trans (((jU sd A i B).append (.refl _)).trans ?_);rw[vN,List.cons_append];refine List.Perm.cons i ?_;rw[List.append_assoc];refine(List.perm_middle (l₁:=A.ns++B.ns) (a:=p)).symm.symm.trans ?_ |>λh=>(by rw[←List.append_assoc];exact h);rw[List.append_assoc]
 generalize (plug (⟨sd,p,s⟩::c) (mkT sd A i B)).ns=N at*
 have hmem:∀x,x∈N↔x=i∨x=p∨x∈A.ns∨x∈B.ns∨x∈s.ns∨x∈vN c:=λx=>by
  rw[hP.mem_iff];simp only[List.mem_cons,List.mem_append]
 have hN:=hP.nodup_iff.1 hn;obtain⟨m1,hN2⟩:=List.nodup_cons.1 hN;obtain⟨m2,hN3⟩:=List.nodup_cons.1 hN2;obtain⟨nA,hN4,dA⟩:=List.nodup_append.1 hN3;obtain⟨nB,hN5,dB⟩:=List.nodup_append.1 hN4;obtain⟨nS,nC,dS⟩:=List.nodup_append.1 hN5;simp only[List.mem_cons,List.mem_append,not_or] at m1 m2;obtain⟨ip,iA,iB,iS,iC⟩:=m1;obtain⟨pA,pB,pS,pC⟩:=m2;have dAB:∀x∈A.ns,x∉B.ns:=λx hx hy=>dA x hx x (by simp[hy]) rfl;have dAC:∀x∈A.ns,x∉vN c:=λx hx hy=>dA x hx x (by simp[hy]) rfl;have dBS:∀x∈B.ns,x∉s.ns:=λx hx hy=>dB x hx x (by simp[hy]) rfl;have dBC:∀x∈B.ns,x∉vN c:=λx hx hy=>dB x hx x (by simp[hy]) rfl;have dSC:∀x∈s.ns,x∉vN c:=λx hx hy=>dS x hx x hy rfl;have dAS:∀x∈A.ns,x∉s.ns:=λx hx hy=>dA x hx x (by simp[hy]) rfl;obtain⟨LT,LC⟩:=(wZ (⟨sd,p,s⟩::c)).1 L;obtain⟨p0,pk,pk2,pf,Yx,psz,pfi,Ls,Lc⟩:=LC;rw[Bg] at pk;obtain⟨i0,ik,ik2,iff,Fp,isz,ifi,LA,LB⟩:=mD.1 LT;replace Fp:(σ i).up=p:=Fp
 have sS:s.rt=0∨s.rt∈s.ns:=by
  by_cases e:s=.nil
  ·subst e;exact .inl rfl
  ·exact .inr (Tr.dH e)
 have sB:B.rt=0∨B.rt∈B.ns:=by
  by_cases e:B=.nil
  ·subst e;exact .inl rfl
  ·exact .inr (Tr.dH e)
 have hsi:s.rt≠i:=λe=>by
  rcases sS with k |k
  ·exact i0 (e▸k)
  ·exact iS (e▸k)
 have hside:side σ i=some sd:=vR (by rw[Fp];exact p0) (by rw[Fp];exact pk) (by rw[Fp,pk2];exact hsi)
 have hgN:G9 c u≠i∧G9 c u≠p∧G9 c u≤n∧G9 c u∉A.ns∧G9 c u∉B.ns∧G9 c u∉s.ns:=by
  cases c with
  |nil=>
   have:=ht.1;rw[hmem] at this;simp only[not_or] at this;exact⟨this.1,this.2.1,hu,this.2.2.1,this.2.2.2.1,this.2.2.2.2.1⟩
  |cons q c2=>
   obtain⟨UG,g,s2⟩:=q
   have hg:g∈vN (⟨UG,g,s2⟩::c2):=by simp[vN]
   exact⟨λe=>iC (e▸hg),λe=>pC (e▸hg),hle g ((hmem g).2 (by simp[hg])),λe=>dAC g e hg,λe=>dBC g e hg,λe=>dSC g e hg⟩
 obtain⟨gi,gp,gn,gA,gB,gS⟩:=hgN
 have hsn:c=[]→side σ p=none:=λe=>by
  subst e;exact rF ht ((hmem p).2 sj) Yx
 have hss:∀q c2,c=q::c2→side σ p=some q.sd:=λq c2 e=>by
  subst e;obtain⟨UG,g,s2⟩:=q;obtain⟨g0,gk,gk2,gf,gup,gsz,gfi,Ls2,Lc2⟩:=Lc;have e2:(σ p).up=g:=Yx;refine vR (by rw[e2];exact g0) (by rw[e2];exact gk) ?_;rw[e2,gk2];intro e3
  by_cases e4:s2=.nil
  ·subst e4;exact p0 e3.symm
  ·exact pC (by simp only[vN,List.mem_cons,List.mem_append];exact .inr (.inl (e3▸Tr.dH e4)))
 have r1i:jQ σ i i={ σ i with up:=G9 c u }:=by
  unfold jQ;rw[Fp,Yx]
  cases c with
  |nil=>rw[hsn rfl];exact Sg.put_eq _ _ _
  |cons q c2=>rw[hss q c2 rfl];exact BD _ (λe=>gi e.symm) i0
 have r1n:∀x,x≠i→x≠G9 c u→jQ σ i x=σ x:=λx h1 h2=>by
  unfold jQ;rw[Fp,Yx]
  cases c with
  |nil=>rw[hsn rfl];exact Sg.bE _ _ h1
  |cons q c2=>rw[hss q c2 rfl];exact nY _ h2 h1
 have r1u:c=[]→∀x,x≠i→jQ σ i x=σ x:=λe x h1=>by
  unfold jQ;rw[Fp,Yx];subst e;rw[hsn rfl];exact Sg.bE _ _ h1
 have ek:(jQ σ i i).kd (!sd)=B.rt:=by rw[r1i,Nd.JA,ik2]
 have Bi:B.rt≠i:=λe=>by
  rcases sB with k |k
  ·exact i0 (e▸k)
  ·exact iB (e▸k)
 have Bp:B.rt≠p:=λe=>by
  rcases sB with k |k
  ·exact p0 (e▸k)
  ·exact pB (e▸k)
 have r3e:fI σ i sd=aO (aO (jQ σ i) p sd B.rt) i (!sd) p:=by unfold fI jP;rw[ek,Fp]
 have r3i:fI σ i sd i=({ σ i with up:=G9 c u }:Nd).nP (!sd) p:=by
  rw[r3e,BF _ ip,nY _ ip (λe=>Bi e.symm),r1i]
 have r3p:fI σ i sd p={ (σ p).nP sd B.rt with up:=i }:=by
  rw[r3e,BD _ (λe=>ip e.symm) p0,BF _ (λe=>Bp e.symm),r1n p (λe=>ip e.symm) (λe=>gp e.symm)]
 have r3B:B≠.nil→fI σ i sd B.rt={ σ B.rt with up:=p }:=λe=>by
  have eB:=Tr.dH e;have e0:B.rt≠0:=LB.nz _ eB;rw[r3e,nY _ Bi Bp,BD _ Bp e0,r1n _ Bi λe=>gB (e▸eB)]
 have r3n:∀x,x≠i→x≠p→(B=.nil∨x≠B.rt)→fI σ i sd x=jQ σ i x:=λx h1 h2 h3=>by
  rw[r3e,nY _ h1 h2,Mh _ h2 (h3.imp (λe=>by rw[e];rfl) λe=>e)]
 have r3o:∀x,x≠i→x≠p→x∉B.ns→x≠G9 c u→fI σ i sd x=σ x:=λx h1 h2 h3 h4=>by
  rw[r3n x h1 h2 ?_,r1n x h1 h4]
  by_cases e:B=.nil
  ·exact .inl e
  ·exact .inr λe2=>h3 (e2▸Tr.dH e)
 have hgx:∀t:List Nat,G9 c u∉t→∀x∈t,x≠G9 c u:=λt h x hx e=>h (e▸hx);have LA3:Lay (fI σ i sd) A i:=LA.keep λx hx=>r3o x (λe=>iA (e▸hx)) (λe=>pA (e▸hx)) (dAB x hx) (hgx _ gA x hx);have Ls3:Lay (fI σ i sd) s p:=Ls.keep λx hx=>r3o x (λe=>iS (e▸hx)) (λe=>pS (e▸hx)) (λe=>dBS x e hx) (hgx _ gS x hx)
 have LB3:Lay (fI σ i sd) B p:=LB.Jw (λx hx hr=>by
  rw[r3n x (λe=>iB (e▸hx)) (λe=>pB (e▸hx)) (.inr hr),r1n x (λe=>iB (e▸hx)) (hgx _ gB x hx)]) nB r3B
 have lex:∀{t:List Nat},(∀x∈t,x∈N)→∀x∈t,x≤n:=λh x hx=>hle x (h x hx);have eA:∀x∈A.ns,x≤n:=lex λx hx=>(hmem x).2 (by simp[hx]);have eB:∀x∈B.ns,x≤n:=lex λx hx=>(hmem x).2 (by simp[hx]);have eS:∀x∈s.ns,x≤n:=lex λx hx=>(hmem x).2 (by simp[hx]);have hpn:p≤n:=hle p ((hmem p).2 sj);have hin:i≤n:=hle i ((hmem i).2 sj)
 obtain⟨R1,L4⟩:=lK (n:=n) (σ:=fI σ i sd) (s:=sd) (x:=B) (y:=s) (v:=p) (p:=i) p0 hpn
  (by rw[r3p,Nd.JA,Nd.AQ]) (by rw[r3p,Nd.JA,Nd.I9,pk2]) (by rw[r3p];show((σ p).nP sd B.rt).fl=false;rw[Nd.AP];exact pf) (by rw[r3p]) LB3 Ls3 nB nS pB pS eB eS
 have hpi:p≠i:=λe=>ip e.symm
 have nX:(mkT sd B p s).ns.Nodup:=by
  rw[(jU sd B p s).nodup_iff,List.nodup_cons,List.mem_append,List.nodup_append];exact⟨λe=>e.elim pB pS,nB,nS,λa ha b hb e=>dBS a ha (e▸hb)⟩
 obtain⟨R2,L5⟩:=lK (n:=n) (σ:=dM (fI σ i sd) p) (s:=sd) (x:=A) (y:=mkT sd B p s) (v:=i) (p:=G9 c u) i0 hin
  (by rw[eX ip,r3i,Nd.Po,Nd.JA,ik]) (by rw[eX ip,r3i,Nd.AQ,Bg]) (by rw[eX ip,r3i,Nd.AP];exact iff) (by rw[eX ip,r3i,Nd.I8])
  (LA3.keep λx hx=>eX λe=>pA (e▸hx)) L4 nA nX iA (by rw[vY];exact λe=>e.elim ip (λe=>e.elim iB iS)) eA
  (λz hz=>by
   rcases vY.1 hz with e |e |e
   ·rw[e];exact hpn
   ·exact eB z e
   ·exact eS z e)
 have eF:fB σ i sd=dM (dM (fI σ i sd) p) i:=by unfold fB;rw[Fp]
 have rFo:∀x,x≠i→x≠p→fB σ i sd x=fI σ i sd x:=λx h1 h2=>by rw[eF,eX h1,eX h2]
 refine⟨⟨hside,hin,by rw[Fp];exact hpn,by rw[Fp,Yx];exact gn,?_,by rw[Fp];exact R1,by rw[Fp];exact R2⟩,Fp,hsn,hss,?_,?_⟩
 ·rw[ek]
  rcases sB with k |k
  ·rw[k];exact Nat.zero_le _
  ·exact eB _ k
 ·refine(wZ c).2 ⟨by rw[eF];exact L5,?_⟩;rw[Bg]
  have hNp:(p::((mkT sd A i B).ns++s.ns)).Perm (mkT sd A i (mkT sd B p s)).ns:=by
   refine List.Perm.trans ?_ (jU sd A i (mkT sd B p s)).symm;refine(((jU sd A i B).append (.refl s.ns)).cons p).trans ?_;rw[List.cons_append];refine(List.Perm.swap i p _).trans (List.Perm.cons i ?_);refine List.Perm.trans ?_ ((List.Perm.refl A.ns).append (jU sd B p s).symm);rw[List.append_assoc];exact List.perm_middle.symm
  cases c with
  |nil=>trivial
  |cons q c2=>
   obtain⟨UG,g,s2⟩:=q
   have hG:Cx (fB σ i sd) (⟨UG,g,s2⟩::c2) i (p::((mkT sd A i B).ns++s.ns)) u:=by
    obtain⟨g0,gk,gk2,gf,gup,gsz,gfi,Ls2,Lc2⟩:=Lc;have nC2:=nC;rw[vN,List.nodup_cons,List.mem_append] at nC2
    have hgg:g∈vN (⟨UG,g,s2⟩::c2):=by simp[vN]
    have hgi:g≠i:=λe=>iC (e▸hgg);have hgp:g≠p:=λe=>pC (e▸hgg);have hgB:g∉B.ns:=λe=>dBC g e hgg
    have eg:fB σ i sd g=(σ g).nP UG i:=by
     rw[rFo g hgi hgp,r3n g hgi hgp ?_]
     ·unfold jQ;rw[Fp,Yx,hss _ _ rfl];exact BF _ hgi
     ·by_cases e:B=.nil
      ·exact .inl e
      ·exact .inr λe2=>hgB (e2▸Tr.dH e)
    have eo:∀x∈vN (⟨UG,g,s2⟩::c2),x≠g→fB σ i sd x=σ x:=λx hx hxg=>by
     have h1:x≠i:=λe=>iC (e▸hx);have h2:x≠p:=λe=>pC (e▸hx);rw[rFo x h1 h2,r3o x h1 h2 (λe=>dBC x e hx) hxg]
    refine⟨g0,by rw[eg,Nd.AQ],by rw[eg,Nd.I9,gk2],by rw[eg,Nd.AP,gf],by rw[eg,Nd.I8,gup],by rw[eg,Nd.UC,gsz],?_,Ls2.keep λx hx=>eo x (by simp[vN,hx]) λe=>nC2.1 (.inl (e▸hx)),Lc2.keep (λx hx=>eo x (by simp[vN,hx]) λe=>nC2.1 (.inr (e▸hx))) (jO σ i sd)⟩;rw[eg,Nd.UD];exact oL.keys (σ:=σ) gfi λx _=>jO σ i sd x
   exact hG.perm hNp
 ·intro x hx;rw[hmem] at hx;simp only[not_or] at hx;obtain⟨h1,h2,h3,h4,h5,h6⟩:=hx;rw[rFo x h1 h2]
  cases c with
  |nil=>
   rw[r3n x h1 h2 ?_,r1u rfl x h1]
   by_cases e:B=.nil
   ·exact .inl e
   ·exact .inr λe2=>h4 (e2▸Tr.dH e)
  |cons q c2=>
   refine r3o x h1 h2 h4 λe=>h6 ?_;rw[e];show q.v∈vN (⟨q.sd,q.v,q.s⟩::c2);simp[vN]
end Go.Proofs.YtpaeogglppampaaGreatDoor
