/- Lemmas of the proof. Conditions: as each one states. -/
import Derived.Test.YtpaeogglppampaaGreatDoorQi
import Derived.RegionTactic
import Derived.BigRegion
import Derived.Deep.DeepCutAuto
import Derived.Deep.LoopGhost
import Derived.ChangeAlike
set_option maxRecDepth 100000
set_option maxHeartbeats 16000000
namespace Go.Proofs.YtpaeogglppampaaGreatDoor
open Go.RowKit
def Row (w:World) (g n:Nat) (f:Nat→Value):Prop:=∃c t,w.heap[g]?=some (.cells c t (0,0))∧∀i<n,c[i]?=some (f i)
section
variable {w w':World} {g n:Nat} {f f':Nat→Value}
theorem Row.cell (h:Row w g n f) {i:Nat} (hi:i<n):w.cell? ⟨g,i,none⟩=some (f i):=by
 obtain⟨c,t,hb,hc⟩:=h;simp[World.cell?,hb,hc i hi]
theorem Row.c (h:Row w g n f) (i:Nat) (hi:i<n:=by omega):w.cell? ⟨g,i,none⟩=some (f i):=h.cell hi
theorem Row.frozen (h:Row w g n f) (i:Nat):w.frozen? ⟨g,i,none⟩=false:=by
 obtain⟨c,t,hb,_⟩:=h;simp[World.frozen?,hb]
theorem Row.lt (h:Row w g n f):g<w.heap.size:=by
 obtain⟨c,t,hb,_⟩:=h;exact(Array.getElem?_eq_some_iff.1 hb).1
theorem Row.congr (h:Row w g n f) (e:∀i<n,f i=f' i):Row w g n f':=by
 obtain⟨c,t,hb,hc⟩:=h;exact⟨c,t,hb,λi hi=>by rw[hc i hi,e i hi]⟩
theorem Row.of_block (h:Row w g n f) (e:w'.heap[g]?=w.heap[g]?):Row w' g n f:=by
 obtain⟨c,t,hb,hc⟩:=h;exact⟨c,t,e.trans hb,hc⟩
theorem Row.set (h:Row w g n f) (i:Nat) (v:Value):Row (w.setCell ⟨g,i,none⟩ v) g n (λj=>if j=i then v else f j):=by
 obtain⟨c,t,hb,hc⟩:=h;refine⟨c.setIfInBounds i v,t,?_,λj hj=>?_⟩
 ·simp[World.setCell,Array.getElem?_modify,hb]
 ·rw[Array.getElem?_setIfInBounds];have:=hc j hj
  by_cases e:j=i
  ·subst e;have:=(Array.getElem?_eq_some_iff.1 this).1;simp[this]
  ·rw[if_neg (λh=>e h.symm)];dsimp only;rw[if_neg e];exact this
theorem Row.setOther (h:Row w g n f) {a:Addr} (ha:g≠a.block) (v:Value):Row (w.setCell a v) g n f:=h.of_block (Below.heap_setCell _ _ _ _ ha)
theorem Row.alloc (h:Row w g n f) (o:Obj):Row (w.alloc o) g n f:=h.of_block (Below.heap_alloc _ _ _ h.lt)
theorem Row.drewN (h:Row w g n f) (q:Nat):Row (w.drewN q) g n f:=h
theorem Row.drew (h:Row w g n f):Row w.drew g n f:=h
theorem Row.below {B:Nat} (h:Row w g n f) (hb:Below B w w') (hg:g<B):Row w' g n f:=h.of_block (hb.block g hg)
theorem Row.made (w:World) (z:Value) (n:Nat) (t:TypeId):Row (w.alloc (.cells (madeCells #[z] n) t)) w.heap.size n (λ_=>z):=by
 obtain⟨c,h1,_,h2⟩:=World.rowIs_made w z n t;exact⟨c,t,h1,h2⟩
theorem Row.lit (w:World) (c:Array Value) (t:TypeId) (hn:n≤c.size) (hf:∀i,(h:i<n)→c[i]'om=f i):Row (w.alloc (.cells c t)) w.heap.size n f:=
 ⟨c,t,heap_alloc_new _ _,λi hi=>by rw[Array.getElem?_eq_getElem om,hf i hi]⟩
theorem Row.owned {base cap:Nat} {e:TypeId} {xs:List Value} (h:w.ownsRow base e 1 (.slice (some ⟨g,0,none⟩) n cap) n xs):Row w g n (λi=>xs.getD i (.int .i64 0)):=by
 have hl:=h.1
 rcases h.2 with⟨h0,_⟩ |⟨g',cap',cur,h1,_,hg,_,_,_,ht⟩
 ·cases h0
 ·cases h1;refine⟨cur,e,hg,λi hi=>?_⟩;have h2:xs[i]?=some (xs[i]'om):=List.getElem?_eq_getElem om
  have h3:(cur.toList.take (n*1))[i]?=some (xs[i]'om):=by rw[ht];exact h2
  rw[List.getElem?_take,if_pos om,Array.getElem?_toList] at h3;rw[h3];simp[List.getD,h2]
end
def edC (E:List Ed) (i:Nat):Nat→Value
 |0=>.int .i64 (aR E i).u
 |1=>.int .i64 (aR E i).v
 |_=>.int .i64 (aR E i).w
theorem Wj (E:List Ed) (i j:Nat):(edC E i j).oneCell'=true:=by unfold edC;split<;>rfl
abbrev ES (w:World) (B:Nat) (v:Value) (E:List Ed) (A:Nat→Addr):Prop:=Rd 198 3 w B v E.length (edC E) A
section
variable {W:World} {B:Nat} {x:Value} {E:List Ed} {A:Nat→Addr}
theorem ES.u (h:ES W B x E A) {i:Nat} (hi:i<E.length):W.cell? (A i)=some (.int .i64 (aR E i).u):=by
 have:=h.cell i hi 0 om;rwa [add_zero] at this
theorem ES.v (h:ES W B x E A) {i:Nat} (hi:i<E.length):W.cell? ⟨(A i).block,(A i).off+1,none⟩=some (.int .i64 (aR E i).v):=h.cell i hi 1 om
theorem ES.w (h:ES W B x E A) {i:Nat} (hi:i<E.length):W.cell? ⟨(A i).block,(A i).off+2,none⟩=some (.int .i64 (aR E i).w):=h.cell i hi 2 om
end
def yB (t e:TypeId) (size:Nat) (m:Nat) (f:Nat→Nat→Value) (w:World) (en:Ending) (w':World):Prop:=
 ∃a cap A,en=.returned (.slice a m cap)∧Rd t size w' w'.heap.size (.slice a m cap) m f A∧Below w.heap.size w w'∧(a=none∨∃g,a=some ⟨g,0,none⟩∧w.heap.size≤g∧w'.ownsRow w.heap.size e size (.slice (some ⟨g,0,none⟩) m cap) m (flat f m size))
theorem aac (B:Nat) (a:Option Addr) (cap m:Nat) (A:Nat→Addr) (f:Nat→Nat→Value) (w:World) (hS:Rd 198 3 w B (.slice a m cap) m f A) (hB:B≤w.heap.size) (hf:∀i<m,∀j<3,(f i j).oneCell'=true) (hm:m≤1000000):
  Calls Tryz.prog 189 #[.slice a m cap] w (yB 198 242 3 m f w):=by
 cases a with
 |none=>
  obtain rfl:m=0:=by
   rcases Nat.eq_zero_or_pos m with h |h
   ·exact h
   ·obtain⟨_,h1,_⟩:=hS.view etE h;cases h1
  have he:=λw=>Lib.run_eql_slice_nil (P:=Tryz.prog) w 198 242 none 0 cap 0 0 Tryz.underlying198;go_in
  go_wp2
  go_ret;exact⟨none,0,A,rfl,Rd.nil _,Below.refl _ _,.inl rfl⟩
 |some ad=>
  have he:=λw=>Lib.run_eql_slice_nil (P:=Tryz.prog) w 198 242 (some ad) m cap 0 0 Tryz.underlying198;go_in
  go_wp2_with (at_builtin;refine Ac etE rfl _ _ rfl hS hB hf _ rfl sj rfl om om ?_;intro g cp w1 hg R1 D1)
  go_ret;obtain⟨a',c',A',h1,h2⟩:=Rd.own etE R1;cases h1;exact⟨_,_,A',rfl,h2,D1,.inr ⟨g,rfl,hg,R1⟩⟩
theorem Z9 (B:Nat) (a:Option Addr) (cap m:Nat) (A:Nat→Addr) (f:Nat→Nat→Value) (w:World) (hS:Rd 62 1 w B (.slice a m cap) m f A) (hB:B≤w.heap.size) (hf:∀i<m,∀j<1,(f i j).oneCell'=true) (hm:m≤1000000):
  Calls Tryz.prog 88 #[.slice a m cap] w (yB 62 3 1 m f w):=by
 cases a with
 |none=>
  obtain rfl:m=0:=by
   rcases Nat.eq_zero_or_pos m with h |h
   ·exact h
   ·obtain⟨_,h1,_⟩:=hS.view Cw h;cases h1
  have he:=λw=>Lib.run_eql_slice_nil (P:=Tryz.prog) w 62 3 none 0 cap 0 0 Tryz.underlying62;go_in
  go_wp2
  go_ret;exact⟨none,0,A,rfl,Rd.nil _,Below.refl _ _,.inl rfl⟩
 |some ad=>
  have he:=λw=>Lib.run_eql_slice_nil (P:=Tryz.prog) w 62 3 (some ad) m cap 0 0 Tryz.underlying62;go_in
  go_wp2_with (at_builtin;refine Ac Cw rfl _ _ rfl hS hB hf _ rfl sj rfl om om ?_;intro g cp w1 hg R1 D1)
  go_ret;obtain⟨a',c',A',h1,h2⟩:=Rd.own Cw R1;cases h1;exact⟨_,_,A',rfl,h2,D1,.inr ⟨g,rfl,hg,R1⟩⟩
structure TabAt (w:World) (B b:Nat) (p:List Int):Prop where
 tree:Tree p
 small:p.length≤8192
 lt:b<B
 made:w.cell? ⟨b,0,none⟩=some (.bool true)
 dep:∃db,db<B∧w.cell? ⟨b,1,none⟩=some (.slice (some ⟨db,0,none⟩) p.length p.length)∧∀i<p.length,w.cell? ⟨db,i,none⟩=some (.int .i64 (dp p i:Nat))
 jmp:∃jb:Nat→Nat,∀j<13,jb j<B∧w.cell? ⟨b,2+j,none⟩=some (.slice (some ⟨jb j,0,none⟩) p.length p.length)∧∀i<p.length,w.cell? ⟨jb j,i,none⟩=some (.int .i64 (oi (aL p (2 ^ j) i)))
theorem TabAt.below {w w':World} {B b:Nat} {p:List Int} (h:TabAt w B b p) (hb:Below B w w'):TabAt w' B b p where
 tree:=h.tree
 small:=h.small
 lt:=h.lt
 made:=by rw[hb.cell h.lt];exact h.made
 dep:=by
  obtain⟨db,h1,h2,h3⟩:=h.dep;exact⟨db,h1,by rw[hb.cell h.lt];exact h2,λi hi=>by rw[hb.cell h1];exact h3 i hi⟩
 jmp:=by
  obtain⟨jb,hj⟩:=h.jmp;exact⟨jb,λj hj'=>⟨(hj j hj').1,by rw[hb.cell h.lt];exact(hj j hj').2.1,λi hi=>by rw[hb.cell (hj j hj').1];exact(hj j hj').2.2 i hi⟩⟩
theorem TabAt.mono {w:World} {B B' b:Nat} {p:List Int} (h:TabAt w B b p) (hB:B≤B'):TabAt w B' b p where
 tree:=h.tree
 small:=h.small
 lt:=Nat.lt_of_lt_of_le h.lt hB
 made:=h.made
 dep:=by
  obtain⟨db,h1,h2,h3⟩:=h.dep;exact⟨db,Nat.lt_of_lt_of_le h1 hB,h2,h3⟩
 jmp:=by
  obtain⟨jb,hj⟩:=h.jmp;exact⟨jb,λj hj'=>⟨Nat.lt_of_lt_of_le (hj j hj').1 hB,(hj j hj').2.1,(hj j hj').2.2⟩⟩
theorem Bn (b B:Nat) (p:List Int) (w:World) (h:TabAt w B b p):
  Calls Tryz.prog 161 #[.pointer (some ⟨b,0,none⟩)] w λe w'=>e=.returned (.int .i64 p.length)∧w=w':=by
 have h1:=h.made;obtain⟨db,_,h2,_⟩:=h.dep;clear h;go_in
 go_wp2
 go_ret;exact⟨rfl,rfl⟩
def vK (p:List Int) (v:Int):Bool:=decide (0≤v∧v<p.length)
theorem VX (b B:Nat) (p:List Int) (v:Int) (w:World) (h:TabAt w B b p):
  Calls Tryz.prog 147 #[.pointer (some ⟨b,0,none⟩),.int .i64 v] w λe w'=>e=.returned (.bool (vK p v))∧w=w':=by
 by_cases h0:0≤v
 ·go_in
  go_wp2_with (go_at_call 161;refine(Bn _ _ _ _ h).mono ?_;rintro e w' ⟨rfl,rfl⟩)
  go_ret;exact⟨by simp[vK,h0],rfl⟩
 ·go_in
  go_wp2
  go_ret;exact⟨by simp[vK];omega,rfl⟩
theorem iq {b B:Nat} {p:List Int} {v:Int} {w:World} {x:Bool} (hx:vK p v=x) (h:TabAt w B b p):
  Calls Tryz.prog 147 #[.pointer (some ⟨b,0,none⟩),.int .i64 v] w λe w'=>e=.returned (.bool x)∧w=w':=by
 subst hx;exact VX _ _ _ _ _ h
def eY (u:Nat):Value:=.int .i64 u
theorem A8 {w:World} {base:Nat} {e:TypeId} {size:Nat} {v x:Value} {m g:Nat} {ys:List Value} {n cap:Nat} (hx:w.ownsRow base e size x m ys) (hv:Moved w v g)
  (h:x.ownBlock=none∨x.ownBlock≠v.ownBlock):x.ownBlock=none∨x.ownBlock≠(Value.slice (some ⟨g,0,none⟩) n cap).ownBlock:=by
 rcases h with h |h
 ·exact .inl h
 ·right
  show x.ownBlock≠some g
  rcases hv with hv |hv
  ·rw[←hv];exact h
  ·intro e;have:=(hx.lt _ e).2;omega
theorem PZ {w:World} {base:Nat} {e:TypeId} {size:Nat} {v x:Value} {m g:Nat} {ys:List Value} {n cap:Nat} (hx:w.ownsRow base e size x m ys) (hv:Moved w v g)
  (h:x.ownBlock=none∨x.ownBlock≠v.ownBlock):(Value.slice (some ⟨g,0,none⟩) n cap).ownBlock=none∨(Value.slice (some ⟨g,0,none⟩) n cap).ownBlock≠x.ownBlock:=by
 rcases A8 (n:=n) (cap:=cap) hx hv h with h |h
 ·right;rw[h];intro e;cases e
 ·exact .inr (λe=>h e.symm)
theorem Tryz.YV:(Tryz.prog.info? 62).map (λi=>(i.zero,i.size,i.bytes))=some (some (.slice none 0 0),1,24):=by kernel_rfl
theorem wO {w:World} {base:Nat} {e:TypeId} {v:Value} {n:Nat} {xs:List Value} (h:w.ownsRow base e 1 v n xs):
  ∃a cap,v=.slice a n cap∧∀i u,xs[i]?=some u→∃g,a=some ⟨g,0,none⟩∧base≤g∧g<w.heap.size∧w.cell? ⟨g,i,none⟩=some u∧w.frozen? ⟨g,i,none⟩=false:=by
 have hl:=h.1
 rcases h.2 with⟨rfl,h0⟩ |⟨g,cap,cur,rfl,hb,hg,hn,hm,hs,ht⟩
 ·subst h0;exact⟨none,0,rfl,λi u hi=>absurd (List.getElem?_eq_some_iff.1 hi).1 om⟩
 ·refine⟨_,cap,rfl,λi u hi=>⟨g,rfl,hb,(Array.getElem?_eq_some_iff.1 hg).1,?_,by simp[World.frozen?,hg]⟩⟩;simp only[World.cell?,hg,Option.isSome_none,Bool.false_eq_true,if_false];rw[←ht,List.getElem?_take] at hi
  split at hi
  ·rw[Array.getElem?_toList] at hi;exact hi
  ·cases hi
theorem Qx {l:List Nat} {i:Nat} (h:i<l.length):(l.map eY)[i]?=some (eY l[i]):=by simp[h]
structure Ce (w:World) (base c n:Nat) (V:Nat→Value) (K:Nat→List Nat) (q:Value) (Q:List Nat):Prop where
 row:w.rowIs c 62 n V
 cb:c<base
 own:∀u<n,w.ownsRow base 3 1 (V u) (K u).length ((K u).map eY)
 uo:w.ownsRow base 3 1 q Q.length (Q.map eY)
 sep:∀u u',u<n→u'<n→u≠u'→(V u).ownBlock=none∨(V u).ownBlock≠(V u').ownBlock
 yK:∀u<n,(V u).ownBlock=none∨(V u).ownBlock≠q.ownBlock
variable {w:World} {base c n:Nat} {V:Nat→Value} {K:Nat→List Nat} {q:Value} {Q:List Nat}
theorem Ce.start (hr:w.rowIs c 62 n (λ_=>.slice none 0 0)) (hc:c<base):Ce w base c n (λ_=>.slice none 0 0) (λ_=>[]) (.slice none 0 0) [] where
 row:=hr
 cb:=hc
 own:=λ_ _=>World.ownsRow_nil _ _ _ _
 uo:=World.ownsRow_nil _ _ _ _
 sep:=λ_ _ _ _ _=>.inl rfl
 yK:=λ_ _=>.inl rfl
theorem Ce.store (F:Ce w base c n V K q Q) {a:Addr} (ha:a.block<base) (hc:c≠a.block) (x:Value):Ce (w.setCell a x) base c n V K q Q where
 row:=F.row.setOther hc x
 cb:=F.cb
 own:=λu hu=>ownsRow_setCell_below (F.own u hu) ha x
 uo:=ownsRow_setCell_below F.uo ha x
 sep:=F.sep
 yK:=F.yK
theorem Ce.push (F:Ce w base c n V K q Q) {w1:World} {g m cap x:Nat} (hown:w1.ownsRow base 3 1 (.slice (some ⟨g,0,none⟩) m cap) (Q.length+1) (Q.map eY++[eY x])) (hg:w.grownBy w1 q.ownBlock)
  (hv:Moved w q g):Ce w1 base c n V K (.slice (some ⟨g,0,none⟩) m cap) (Q++[x]) where
 row:=F.row.of_block (hg.block c F.row.lt (λe=>oD ((F.uo.lt c e.symm).1) F.cb))
 cb:=F.cb
 own:=λu hu=>(F.own u hu).kept hg (F.yK u hu)
 uo:=by simpa using hown
 sep:=F.sep
 yK:=λu hu=>A8 (F.own u hu) hv (F.yK u hu)
theorem Ce.still (F:Ce w base c n V K q Q) {w1:World} {p:Nat} (hp:p<n) (hg:w.grownBy w1 (V p).ownBlock):w1.rowIs c 62 n V:=
 F.row.of_block (hg.block c F.row.lt (λe=>oD (((F.own p hp).lt c e.symm).1) F.cb))
theorem Ce.add (F:Ce w base c n V K q Q) {w1:World} {g m cap:Nat} {p x:Nat} (hp:p<n) (hown:w1.ownsRow base 3 1 (.slice (some ⟨g,0,none⟩) m cap) ((K p).length+1) ((K p).map eY++[eY x])) (hg:w.grownBy w1 (V p).ownBlock)
  (hv:Moved w (V p) g):Ce (w1.setCell ⟨c,p,none⟩ (.slice (some ⟨g,0,none⟩) m cap)) base c n (λu=>if u=p then .slice (some ⟨g,0,none⟩) m cap else V u) (λu=>if u=p then K u++[x] else K u) q Q where
 row:=(F.still hp hg).set p _
 cb:=F.cb
 own:=λu hu=>by
  refine ownsRow_setCell_below ?_ (by exact F.cb) _
  by_cases e:u=p
  ·subst e;simpa using hown
  ·simp only[if_neg e];exact(F.own u hu).kept hg (F.sep u p hu hp e)
 uo:=by
  refine ownsRow_setCell_below ?_ (by exact F.cb) _;refine F.uo.kept hg ?_
  rcases F.yK p hp with h |h
  ·cases hq:q.ownBlock with
   |none=>exact .inl rfl
   |some b=>right;rw[h];simp
  ·exact .inr (λe=>h e.symm)
 sep:=λu u' hu hu' hne=>by
  by_cases e:u=p
  ·subst e;have e':u'≠u:=λh=>hne h.symm;simp only[if_true,if_neg e'];exact PZ (F.own u' hu') hv (F.sep u' u hu' hu e')
  ·simp only[if_neg e]
   by_cases e':u'=p
   ·subst e';simp only[if_true];exact A8 (F.own u hu) hv (F.sep u u' hu hu' e)
   ·simp only[if_neg e'];exact F.sep u u' hu hu' hne
 yK:=λu hu=>by
  by_cases e:u=p
  ·subst e;simp only[if_true]
   right
   show some g≠q.ownBlock
   rcases hv with hv |hv
   ·rw[←hv]
    rcases F.yK u hu with h |h
    ·rw[hv] at h;cases h
    ·exact h
   ·intro e2;have:=(F.uo.lt _ e2.symm).2;omega
  ·simp only[if_neg e];exact F.yK u hu
def jG (p:List Int):Prop:=∀i<p.length,-1≤nth p i∧nth p i<p.length
theorem FZ {p:List Int} {i:Nat} (hi:i<p.length) (h:jG p):nth p i=oi (pa p i):=by
 rw[acj hi,Qi hi];rw[←Qi hi];exact(h i hi).1
theorem jG.lt {p:List Int} (h:jG p) {u x:Nat} (hx:pa p u=some x):x<p.length:=by
 have hu:=zD hx;have h1:=(h u hu).2;rw[FZ hu h,hx] at h1;simp only[oi] at h1;omega
def IC (p:List Int) (w:World) (e:Ending) (w':World):Prop:=
 ∃(D:Nat→Nat) (ok:Bool) (db:Nat),e=.returned (.tuple #[.slice (some ⟨db,0,none⟩) p.length p.length,.bool ok])∧w.heap.size≤db∧w'.rowIs db 3 p.length (λi=>eY (D i))∧Below w.heap.size w w'∧
  (ok=true→fE p D)∧(Tree p→ok=true)
theorem G8 (B:Nat) (a:Option Addr) (cap:Nat) (A:Nat→Addr) (p:List Int) (w:World) (hp:p.length≤8193) (hR:jG p) (hS:Sl 62 .i64 w B (.slice a p.length cap) p A) (hB:B≤w.heap.size):
  Calls Tryz.prog 174 #[.slice a p.length cap] w (IC p w):=by
 have Zf:=run_make_row' (P:=Tryz.prog) 294 62 (.slice none 0 0) 24 Tryz.underlying294 Tryz.YV rfl .i64 .i64 p.length om om;have Gv:=run_make_row' (P:=Tryz.prog) 62 3 (.int .i64 0) 8 Tryz.underlying62 Tryz.ng rfl .i64 .i64 p.length om om;go_in
 go_wp2
 have hB2:Below w.heap.size w ((w.alloc (.cells (madeCells #[.slice none 0 0] p.length) 62)).alloc (.cells (madeCells #[.int .i64 0] p.length) 3)):=((Below.refl _ w).alloc (Nat.le_refl _) _).alloc sj _
 have hF0:Ce ((w.alloc (.cells (madeCells #[.slice none 0 0] p.length) 62)).alloc (.cells (madeCells #[.int .i64 0] p.length) 3)) (w.heap.size+2) w.heap.size p.length (λ_=>.slice none 0 0) (λ_=>[]) (.slice none 0 0) []:=
  Ce.start ((World.rowIs_made w _ _ _).alloc _) om
 have hD0:((w.alloc (.cells (madeCells #[.slice none 0 0] p.length) 62)).alloc (.cells (madeCells #[.int .i64 0] p.length) 3)).rowIs (w.heap.size+1) 3 p.length (λ_=>eY 0):=by
  have:=World.rowIs_made (w.alloc (.cells (madeCells #[.slice none 0 0] p.length) 62)) (.int .i64 0) p.length 3;rw[World.size_alloc] at this;exact this
 have hsz0:((w.alloc (.cells (madeCells #[.slice none 0 0] p.length) 62)).alloc (.cells (madeCells #[.int .i64 0] p.length) 3)).heap.size=w.heap.size+2:=sj;generalize ((w.alloc (.cells (madeCells #[.slice none 0 0] p.length) 62)).alloc (.cells (madeCells #[.int .i64 0] p.length) 3))=W0 at*;clear Zf Gv
 go_loopw [7,22] (λq i wr=>∃(k:Nat) (V:Nat→Value),k≤p.length∧i=.int .i64 k∧Ce wr (w.heap.size+2) w.heap.size p.length V (λu=>gI p k u) q (dw p k)∧wr.rowIs (w.heap.size+1) 3 p.length (λ_=>eY 0)∧Below w.heap.size w wr∧w.heap.size+2≤wr.heap.size)
  (λ_ i _=>p.length-(intOf i).toNat)
 case atStart=>exact⟨0,_,Nat.zero_le _,rfl,hF0,hD0,hB2,om⟩
 case round=>
  obtain⟨k,V,hk,rfl,hF,hD,hBr,Y5⟩:=hrel
  by_cases hlt:k<p.length
  ·have hix:=hS.ix k hlt;have hc0:=Sl.at (hS.below (hBr.mono hB)) hlt;have hnx:=FZ hlt hR
   cases hpk:pa p k with
   |none=>
    rw[hpk] at hnx;rw[hnx] at hc0;replace hc0:wr.cell? (A k)=some (.int .i64 (-1)):=hc0;have HR:=jh (rM p k);have HK:=jh (uZ p k);have HP:=jh hpk;have hlen:=Dt p k;clear hnx hpk
    go_wp2_with (at_builtin;refine push Cw rfl _ _ rfl (w.heap.size+2) _ _ _ hF.uo rfl #[eY k] _ rfl rfl rfl (by simp[eY,Value.oneCell']) om om om ?_;intro g cp w1 hown1 hg1 hv1)
    have hF1:=hF.push hown1 hg1 hv1;have hlb:=hF.uo.lt;clear hown1 hv1;go_roundw
    case rel=>
     refine⟨k+1,V,om,by go_num,?_,hD.of_block (hg1.block _ hD.lt (λe=>oC ((hlb _ e.symm).1))),hBr.grown hg1 hBr.size (λj e=>oC ((hlb j e).1)),oC hg1.size⟩
     have e1:dw p (k+1)=dw p k++[k]:=by rw[HR.out,if_pos HP.out]
     have e2:(λu=>gI p (k+1) u)=λu=>gI p k u:=by funext u;rw[HK.out,HP.out,if_neg sj]
     rw[e1,e2];exact hF1
    case measure=>simp[intOf];omega
   |some x=>
    rw[hpk] at hnx;rw[hnx] at hc0;replace hc0:wr.cell? (A k)=some (.int .i64 x):=hc0;have hxl:=hR.lt hpk;have hxi:(0:Int)≤x∧(x:Int)<p.length:=om;have hcx:=hF.row.cell hxl;have HR:=jh (rM p k);have HK:=jh (uZ p k);have HP:=jh hpk;have hlen:=xu p k x;clear hnx hpk
    go_wp2_with (at_builtin;refine push Cw rfl _ _ rfl (w.heap.size+2) _ _ _ (hF.own x hxl) rfl #[eY k] _ rfl rfl rfl (by simp[eY,Value.oneCell']) om om om ?_;intro g cp w1 hown1 hg1 hv1;have hst:=hF.still hxl hg1;have hcell1:=hst.cell hxl;have aoA:=hst.frozen x;have hF1:=hF.add hxl hown1 hg1 hv1;have hlb:=(hF.own x hxl).lt;clear hst hown1 hv1)
    go_roundw
    case rel=>
     refine⟨k+1,λu=>if u=x then .slice (some ⟨g,0,none⟩) ((gI p k x).length+1) cp else V u,om,by go_num,?_,(hD.of_block (hg1.block _ hD.lt (λe=>oC ((hlb _ e.symm).1)))).setOther sj _,
      (hBr.grown hg1 hBr.size (λj e=>oC ((hlb j e).1))).setCell (p:=⟨w.heap.size,x,none⟩) (Nat.le_refl _) _,by have:=hg1.size;simp;omega⟩
     have e1:dw p (k+1)=dw p k:=by rw[HR.out,HP.out,if_neg sj]
     have e2:(λu=>gI p (k+1) u)=λu=>if u=x then gI p k u++[k] else gI p k u:=by
      funext u;rw[HK.out,HP.out]
      by_cases hu:u=x
      ·rw[if_pos hu,if_pos (by rw[hu])]
      ·rw[if_neg hu,if_neg (by simpa using λe=>hu e.symm)]
     rw[e1,e2];exact hF1
    case measure=>simp[intOf];omega
  ·obtain rfl:k=p.length:=om;clear hF0 hD0 hsz0 hB2 hlt hk;have hFk:Ce wr (w.heap.size+2) w.heap.size p.length V (kids p) u7 (dw p p.length):=hF;clear hF
   go_wp2
   go_loopw [7,10] (λq i wx=>∃(k:Nat) (Q:List Nat) (D:Nat→Nat),i=.int .i64 k∧IE p k Q∧WZ p Q D∧Ce wx (w.heap.size+2) w.heap.size p.length V (kids p) q Q∧wx.rowIs (w.heap.size+1) 3 p.length (λi=>eY (D i))∧Below w.heap.size w wx∧w.heap.size+2≤wx.heap.size)
    (λ_ i _=>p.length-(intOf i).toNat)
   case atStart=>exact⟨0,_,_,rfl,IE.start p,WZ.start p,hFk,hD,hBr,Y5⟩
   case round=>
    clear hFk hD hBr Y5;obtain⟨i,Q,D,rfl,hQ,yU,hF,hD,hBr,Y5⟩:=hrel;obtain⟨wo,rfl⟩:=nG (wr:World);have hQl:=hQ.len;have hil:=hQ.le;obtain⟨aq,cq,TP,hqc⟩:=wO hF.uo
    by_cases hlt:i<Q.length
    ·have Gt:=hQ.lt _ (List.getElem_mem hlt);obtain⟨gq,rfl,_,_,hcq,_⟩:=hqc i _ (Qx hlt);have hfresh:=λc (h:pa p c=some Q[i])=>hQ.fresh hlt h;have hum:Q[i]∈Q:=List.getElem_mem hlt;have HQ:=jh (hQ.step hlt);clear hQ hqc;generalize Q[i]=u at*;obtain⟨au,cu,hVu,hVc⟩:=wO (hF.own u Gt);have Co:=hF.row.cell Gt;rw[hVu] at Co;have hui:(0:Int)≤u∧(u:Int)<p.length:=om;have hii:(0:Int)≤i∧(i:Int)<Q.length:=om;have hkl:=xu p p.length u;replace hkl:(kids p u).length≤p.length:=hkl;have HV:=jh hVu;replace hcq:wo.cell? ⟨gq,i,none⟩=some (.int .i64 u):=hcq;clear hVu;rw[TP] at hF⊢;clear TP
     go_wp2
     go_loopw [7,59] (λq jv wx=>∃(j:Nat) (D:Nat→Nat),j≤(kids p u).length∧jv=.int .i64 j∧WZ p (Q++(kids p u).take j) D∧Ce wx (w.heap.size+2) w.heap.size p.length V (kids p) q (Q++(kids p u).take j)∧wx.rowIs (w.heap.size+1) 3 p.length (λi=>eY (D i))∧Below w.heap.size w wx∧w.heap.size+2≤wx.heap.size)
      (λ_ jv _=>(kids p u).length-(intOf jv).toNat)
     case atStart=>exact⟨0,D,Nat.zero_le _,rfl,by simpa using yU,by simpa using hF,hD,hBr,Y5⟩
     case round=>
      clear yU hF hD hBr Y5 hcq Co hVc;obtain⟨j,E,hj,rfl,yU,hF,hD,hBr,Y5⟩:=hrel;have hEl:=yU.le u;have hDl:=hD.cell Gt
      by_cases hjl:j<(kids p u).length
      ·have hck:(kids p u)[j]∈kids p u:=List.getElem_mem hjl;have hpc:=rW.1 hck;have hcl:=zD hpc;have hown:=hF.own u Gt;rw[HV.out] at hown;obtain⟨au',cu',hVe,hVc⟩:=wO hown;obtain⟨gu,hau,_,_,hcc,_⟩:=hVc j _ (Qx hjl);simp only[Value.slice.injEq] at hVe;obtain⟨rfl,_,_⟩:=hVe;subst hau;have htk:(kids p u).take (j+1)=(kids p u).take j++[(kids p u)[j]]:=List.take_succ_eq_append_getElem hjl
       have hnew:(kids p u)[j]∉Q++(kids p u).take j:=by
        rw[List.mem_append];rintro(h |h)
        ·exact hfresh _ hpc h
        ·have hnd:=xq p u;rw[←List.take_append_drop j (kids p u),List.nodup_append] at hnd;exact hnd.2.2 _ h _ (by rw[List.drop_eq_getElem_cons hjl];exact List.mem_cons_self) rfl
       have HT:=jh htk;have HDS:=jh (yU.step hnew (List.mem_append_left _ hum) hpc)
       have hlq:(Q++(kids p u).take j).length≤p.length+p.length:=by simp;omega
       clear htk hck hVc hnew hpc yU;generalize (kids p u)[j]=c at*;have hci:(0:Int)≤c∧(c:Int)<p.length:=om;have hji:(0:Int)≤j∧(j:Int)<(kids p u).length:=om;have hDc:=hD.cell hcl;have hDf:=hD.frozen c;replace hcc:wr.cell? ⟨gu,j,none⟩=some (.int .i64 c):=hcc;replace hDl:wr.cell? ⟨w.heap.size+1,u,none⟩=some (.int .i64 (E u)):=hDl;have hF2:=hF.store (a:=⟨w.heap.size+1,c,none⟩) sj sj (.int .i64 ((E u:Int)+1))
       go_wp2_with (at_builtin;refine push Cw rfl _ _ rfl (w.heap.size+2) _ _ _ hF2.uo rfl #[eY c] _ rfl sj rfl (by simp[eY,Value.oneCell']) om om (by simp;omega) ?_;intro g cp w1 hown1 hg1 hv1)
       have NM:=hF2.push hown1 hg1 hv1
       have hle2:(Q++(kids p u).take j).length=Q.length+j:=by simp;omega
       rw[hle2] at NM;have hlb:=hF.uo.lt;have hD2:=hD.set c (eY (E u+1));have hD3:=hD2.of_block (hg1.block _ hD2.lt (λe=>oC ((hlb _ e.symm).1)));have hB3:=(hBr.setCell (p:=⟨w.heap.size+1,c,none⟩) sj (.int .i64 ((E u:Int)+1))).grown hg1 (by have:=hBr.size;simp;omega) (λj e=>oC ((hlb j e).1));have hz3:=hg1.size;rw[World.size_setCell] at hz3;refine⟨⟨_,_,_,⟨j+1,om,rfl,_,by rw[HT.out,←List.append_assoc];exact HDS.out,by rw[HT.out,←List.append_assoc];exact NM,?_,hB3,om⟩,rfl,rfl,by go_num⟩,by simp[intOf];omega⟩;exact hD3.congr (λi _=>by by_cases e:i=c<;>simp[e])
      ·obtain rfl:j=(kids p u).length:=om;rw[List.take_length] at yU hF
       go_wp2
       go_roundw
       case rel=>exact⟨i+1,_,_,by go_num,HQ.out,yU,hF,hD,hBr,Y5⟩
       case measure=>simp[intOf];omega
    ·obtain rfl:i=Q.length:=om;have Zk:=jh (λF=>hQ.MH F);have Zj:=jh (λh=>hQ.EG yU (λv u h=>hR.lt h) h);clear hQ yU;rw[TP];clear TP hqc hF
     go_wp2
     go_ret2;exact⟨D,((Q.length:Int)==(p.length:Int)),w.heap.size+1,rfl,om,hD,hBr,λh=>Zj.out (oC (eq_of_beq h)),λF=>by rw[Zk.out F];simp⟩
def LZ (p:List Int):Bool:=(List.range p.length).all λi=>decide (-1≤nth p i∧nth p i<p.length)
theorem sO {p:List Int}:LZ p=true↔jG p:=by
 simp[LZ,jG]
theorem zq {p:List Int}:mR p=true↔Tree p:=by
 refine⟨zo,λF=>?_⟩;unfold mR;rw[List.all_eq_true];intro v hv
 have hv:v<p.length:=by simpa using hv
 cases hp:pa p v with
 |none=>simpa using F.root v hv hp
 |some u=>simp only[Bool.and_eq_true,decide_eq_true_eq,beq_iff_eq];exact⟨F.rng v u hv hp,F.up v u hv hp⟩
def newE (p:List Int):Int:=if 8192<p.length then 2 else if LZ p then(if mR p then 0 else 9) else 3
theorem Va (a:Option Addr) (n cap:Nat) (w:World) (hn:8192<n) (hm:n≤9223372036854775807):
  Calls Tryz.prog 145 #[.slice a n cap] w λe w'=>e=.returned (.tuple #[.pointer none,.int .i64 2])∧w=w':=by
 have hb:decide (8192<n)=true:=by simpa using hn
 go_in
 go_wp2
 go_ret2;exact⟨rfl,rfl⟩
theorem Li (B:Nat) (a:Option Addr) (cap:Nat) (A:Nat→Addr) (p:List Int) (w:World) (hp:p.length≤8192) (hR:¬jG p) (hS:Sl 62 .i64 w B (.slice a p.length cap) p A):
  Calls Tryz.prog 145 #[.slice a p.length cap] w λe w'=>e=.returned (.tuple #[.pointer none,.int .i64 3])∧w=w':=by
 go_in
 go_wp2
 go_loop [19] (λi=>∃k:Nat,k≤p.length∧i=.int .i64 k∧∀i<k,-1≤nth p i∧nth p i<p.length) (λi=>p.length-(intOf i).toNat)
 case atStart=>exact⟨0,Nat.zero_le _,rfl,λi hi=>absurd hi om⟩
 case round=>
  obtain⟨k,hk,rfl,hall⟩:=hrel
  by_cases hlt:k<p.length
  ·have hix:=hS.ix k hlt;have hc:=Sl.at hS hlt;have HA:=jh hall;clear hall
   by_cases h1:nth p k< -1
   ·go_wp2
    go_ret2;exact⟨rfl,rfl⟩
   ·by_cases h2:(p.length:Int)≤nth p k
    ·go_wp2
     go_ret2;exact⟨rfl,rfl⟩
    ·go_wp2
     go_round
     case rel=>exact⟨k+1,om,by go_num,λi hi=>by
      by_cases e:i=k
      ·subst e;omega
      ·exact HA.out i om⟩
     case measure=>simp[intOf];omega
  ·exfalso;obtain rfl:k=p.length:=om;exact hR hall
structure Making (w:World) (b db j:Nat) (jb:Nat→Nat) (p:List Int):Prop where
 tab:w.rowIs b 255 15 (λc=>if c=0 then .bool true else if c=1 then .slice (some ⟨db,0,none⟩) p.length p.length else if c<2+j then .slice (some ⟨jb (c-2),0,none⟩) p.length p.length else .slice none 0 0)
 dep:w.rowIs db 3 p.length (λi=>eY (dp p i))
 jmp:∀i<j,w.rowIs (jb i) 3 p.length (λv=>.int .i64 (oi (aL p (2 ^ i) v)))
theorem Making.start {w:World} {db:Nat} {p:List Int} (jb:Nat→Nat) (hd:w.rowIs db 3 p.length (λi=>eY (dp p i))):
  Making (w.alloc (.cells #[.bool true,.slice (some ⟨db,0,none⟩) p.length p.length,.slice none 0 0,.slice none 0 0,.slice none 0 0,.slice none 0 0,.slice none 0 0,.slice none 0 0,.slice none 0 0,.slice none 0 0,.slice none 0 0,.slice none 0 0,.slice none 0 0,.slice none 0 0,.slice none 0 0] 255)) w.heap.size db 0 jb p where
 tab:=by
  refine World.rowIs_alloc w _ 255 _ (λi hi=>?_);have hi:i<15:=hi
  match i,hi with
  |0,_=>rfl
  |1,_=>rfl
  |2,_=>rfl
  |3,_=>rfl
  |4,_=>rfl
  |5,_=>rfl
  |6,_=>rfl
  |7,_=>rfl
  |8,_=>rfl
  |9,_=>rfl
  |10,_=>rfl
  |11,_=>rfl
  |12,_=>rfl
  |13,_=>rfl
  |14,_=>rfl
 dep:=hd.alloc _
 jmp:=λi hi=>absurd hi om
structure Half (w:World) (b db k v:Nat) (jb:Nat→Nat) (p:List Int):Prop where
 tab:w.rowIs b 255 15 (λc=>if c=0 then .bool true else if c=1 then .slice (some ⟨db,0,none⟩) p.length p.length else if c<2+(k+1) then .slice (some ⟨jb (c-2),0,none⟩) p.length p.length else .slice none 0 0)
 dep:w.rowIs db 3 p.length (λi=>eY (dp p i))
 jmp:∀i<k,w.rowIs (jb i) 3 p.length (λv=>.int .i64 (oi (aL p (2 ^ i) v)))
 cur:w.rowIs (jb k) 3 p.length (λi=>.int .i64 (if i<v then oi (aL p (2 ^ k) i) else 0))
 R9:db<b
 Ia:∀i<k+1,b<jb i
 top:∀i<k,jb i<jb k
theorem Half.start {w:World} {b db k:Nat} {jb:Nat→Nat} {p:List Int} (M:Making w b db k jb p) (hk:k<13) (hdb:db<b) (hb:b<w.heap.size) (hjb:∀i<k,b<jb i):
  Half (((w.setCell ⟨b,2+k,none⟩ (.slice (some ⟨w.heap.size,0,none⟩) p.length p.length)).alloc (.cells (madeCells #[.int .i64 0] p.length) 3)).drew) b db k 0 (λi=>if i=k then w.heap.size else jb i) p where
 tab:=by
  refine(((M.tab.set (2+k) _).alloc _).drew).congr (λc hc=>?_)
  by_cases e:c=2+k
  ·subst e;rw[if_pos rfl,if_neg om,if_neg om,if_pos om,if_pos om]
  ·rw[if_neg e]
   by_cases e0:c=0
   ·rw[if_pos e0,if_pos e0]
   ·by_cases e1:c=1
    ·rw[if_neg e0,if_neg e0,if_pos e1,if_pos e1]
    ·rw[if_neg e0,if_neg e0,if_neg e1,if_neg e1]
     by_cases e2:c<2+k
     ·rw[if_pos e2,if_pos om,if_neg om]
     ·rw[if_neg e2,if_neg om]
 dep:=((M.dep.setOther (by show db≠b;omega) _).alloc _).drew
 jmp:=λi hi=>by rw[if_neg om];exact(((M.jmp i hi).setOther (by show jb i≠b;have:=hjb i hi;omega) _).alloc _).drew
 cur:=by
  rw[if_pos rfl];have:=World.rowIs_made (w.setCell ⟨b,2+k,none⟩ (.slice (some ⟨w.heap.size,0,none⟩) p.length p.length)) (.int .i64 0) p.length 3;rw[World.size_setCell] at this;exact this.congr (λi _=>by rw[if_neg om])
 R9:=hdb
 Ia:=λi hi=>by
  by_cases e:i=k
  ·rw[if_pos e];exact hb
  ·rw[if_neg e];exact hjb i om
 top:=λi hi=>by rw[if_neg om,if_pos rfl];exact(M.jmp i hi).lt
theorem Half.store {w:World} {b db k v:Nat} {jb:Nat→Nat} {p:List Int} (M:Half w b db k v jb p) {x:Int} (hx:x=oi (aL p (2 ^ k) v)):Half (w.setCell ⟨jb k,v,none⟩ (.int .i64 x)) b db k (v+1) jb p where
 tab:=M.tab.setOther (by have:=M.Ia k om;show b≠jb k;omega) _
 dep:=M.dep.setOther (by have:=M.Ia k om;have:=M.R9;show db≠jb k;omega) _
 jmp:=λi hi=>(M.jmp i hi).setOther (by have:=M.top i hi;show jb i≠jb k;omega) _
 cur:=(M.cur.set v _).congr (λi _=>by
  by_cases e:i=v
  ·subst e;rw[if_pos rfl,if_pos om,hx]
  ·rw[if_neg e]
   by_cases e2:i<v
   ·rw[if_pos e2,if_pos om]
   ·rw[if_neg e2,if_neg om])
 R9:=M.R9
 Ia:=M.Ia
 top:=M.top
theorem Half.drew {w:World} {b db k v:Nat} {jb:Nat→Nat} {p:List Int} (M:Half w b db k v jb p):Half w.drew b db k v jb p:=⟨M.tab,M.dep,M.jmp,M.cur,M.R9,M.Ia,M.top⟩
theorem Half.done {w:World} {b db k:Nat} {jb:Nat→Nat} {p:List Int} (M:Half w b db k p.length jb p):Making w b db (k+1) jb p where
 tab:=M.tab
 dep:=M.dep
 jmp:=λi hi=>by
  by_cases e:i=k
  ·subst e;exact M.cur.congr (λi hi=>by rw[if_pos hi])
  ·exact M.jmp i om
theorem Half.slot {w:World} {b db k v i:Nat} {jb:Nat→Nat} {p:List Int} (M:Half w b db k v jb p) (hi:i<k+1) (hk:k<13):w.cell? ⟨b,2+i,none⟩=some (.slice (some ⟨jb i,0,none⟩) p.length p.length):=by
 have:=M.tab.cell (i:=2+i) om;rw[if_neg om,if_neg om,if_pos om,show 2+i-2=i from om] at this;exact this
def Held (base:Nat) (w:World) (P:World→Prop):Prop:=∀W:World,(∀j,base≤j→j<w.heap.size→W.heap[j]?=w.heap[j]?)→P W
theorem Held.self {base:Nat} {w:World} {P:World→Prop} (h:Held base w P):P w:=h w λ_ _ _=>rfl
theorem Held.lower {base base':Nat} {w:World} {P:World→Prop} (h:Held base w P) (hb:base'≤base):Held base' w P:=λW hW=>h W λj h1 h2=>hW j (Nat.le_trans hb h1) h2
theorem Making.held {w:World} {b db lo:Nat} {jb:Nat→Nat} {p:List Int} (M:Making w b db 13 jb p) (F:Tree p) (hs:p.length≤8192) (h1:lo≤b) (h2:lo≤db) (h3:∀i<13,lo≤jb i):Held lo w λW=>TabAt W w.heap.size b p:=λW hW=>
 have M':Making W b db 13 jb p:=⟨M.tab.of_block (hW b h1 M.tab.lt),M.dep.of_block (hW db h2 M.dep.lt),λi hi=>(M.jmp i hi).of_block (hW _ (h3 i hi) (M.jmp i hi).lt)⟩
 ⟨F,hs,M.tab.lt,M'.tab.cell (i:=0) om,⟨db,M.dep.lt,M'.tab.cell (i:=1) om,λi hi=>M'.dep.cell hi⟩,⟨jb,λj hj=>⟨(M.jmp j hj).lt,by
  have:=M'.tab.cell (i:=2+j) om;rw[if_neg om,if_neg om,if_pos om,show 2+j-2=j from om] at this
  exact this,λi hi=>(M'.jmp j hj).cell hi⟩⟩⟩
theorem Qk (B:Nat) (a:Option Addr) (cap:Nat) (A:Nat→Addr) (p:List Int) (w:World) (hp:p.length≤8192) (hR:jG p) (hS:Sl 62 .i64 w B (.slice a p.length cap) p A) (hB:B≤w.heap.size):
  Calls Tryz.prog 145 #[.slice a p.length cap] w λe w'=>Below w.heap.size w w'∧((mR p=false∧e=.returned (.tuple #[.pointer none,.int .i64 9]))∨(mR p=true∧∃b,e=.returned (.tuple #[.pointer (some ⟨b,0,none⟩),.int .i64 0])∧Held w.heap.size w' λW=>TabAt W w'.heap.size b p)):=by
 have Gv:=run_make_row' (P:=Tryz.prog) 62 3 (.int .i64 0) 8 Tryz.underlying62 Tryz.ng rfl .i64 .i64 p.length om om;have HR:=jh hR;clear hR;go_in;go_wp2
 go_loop [19] (λi=>∃k:Nat,k≤p.length∧i=.int .i64 k) (λi=>p.length-(intOf i).toNat)
 case atStart=>exact⟨0,Nat.zero_le _,rfl⟩
 case round=>
  obtain⟨k,hk,rfl⟩:=hrel
  by_cases hlt:k<p.length
  ·have hix:=hS.ix k hlt;have hc:=Sl.at hS hlt;have h1:=HR.out k hlt;go_wp2
   go_round
   case rel=>exact⟨k+1,om,by go_num⟩
   case measure=>simp[intOf];omega
  ·obtain rfl:k=p.length:=om;go_wp2_with fail;refine(G8 B a cap A p w om HR.out hS hB).mono ?_;rintro e w1 ⟨D,ok,db,rfl,hdb,hD,hB1,ho1,ho2⟩;have GL:=hB1.size;have ah6:=hD.lt
   cases ok with
   |false=>
    have hT:mR p=false:=by
     cases h:mR p with
     |false=>rfl
     |true=>exact absurd (ho2 (zo h)) sj
    have HT:=jh hT;clear hT ho1 ho2;go_wp2;go_ret2;exact⟨hB1,.inl ⟨HT.out,rfl⟩⟩
   |true=>
    have F:=ho1 rfl;have hT:Tree p:=F.tree;have hdp:=hD.congr (g:=λi=>eY (dp p i)) (λi hi=>by rw[JR F hi]);have HT:=jh hT;clear ho1 ho2 hD F hT;go_wp2_with fail;have hM0:=Making.start (w:=w1) (db:=db) (p:=p) (λ_=>0) hdp;have hBW:Below w.heap.size w (w1.alloc (.cells #[.bool true,.slice (some ⟨db,0,none⟩) p.length p.length,.slice none 0 0,.slice none 0 0,.slice none 0 0,.slice none 0 0,.slice none 0 0,.slice none 0 0,.slice none 0 0,.slice none 0 0,.slice none 0 0,.slice none 0 0,.slice none 0 0,.slice none 0 0,.slice none 0 0] 255)):=hB1.alloc GL _;have hsW:(w1.alloc (.cells #[.bool true,.slice (some ⟨db,0,none⟩) p.length p.length,.slice none 0 0,.slice none 0 0,.slice none 0 0,.slice none 0 0,.slice none 0 0,.slice none 0 0,.slice none 0 0,.slice none 0 0,.slice none 0 0,.slice none 0 0,.slice none 0 0,.slice none 0 0,.slice none 0 0] 255)).heap.size=w1.heap.size+1:=sj;generalize (w1.alloc (.cells #[.bool true,.slice (some ⟨db,0,none⟩) p.length p.length,.slice none 0 0,.slice none 0 0,.slice none 0 0,.slice none 0 0,.slice none 0 0,.slice none 0 0,.slice none 0 0,.slice none 0 0,.slice none 0 0,.slice none 0 0,.slice none 0 0,.slice none 0 0,.slice none 0 0] 255))=W0 at*;clear hdp hB1;generalize w1.heap.size=b at*
    go_loopw [41] (λj wr=>∃(k:Nat) (jb:Nat→Nat),k≤13∧j=.int .i64 k∧Making wr b db k jb p∧Below w.heap.size w wr∧b<wr.heap.size∧∀i<k,b<jb i) (λj _=>13-(intOf j).toNat)
    case atStart=>exact⟨0,_,om,rfl,hM0,hBW,om,λi hi=>absurd hi om⟩
    case round=>
     clear hM0 hBW hsW;obtain⟨k,jb,hk,rfl,hM,hBr,hbr,hjb⟩:=hrel
     by_cases hlt:k<13
     ·have hki:(0:Int)≤k∧(k:Int)<13:=om
      have hca:∀o,(wr.alloc o).cell? ⟨b,2+k,none⟩=some (.slice none 0 0):=λo=>by
       have:=(hM.tab.alloc o).cell (i:=2+k) om;rw[if_neg om,if_neg om,if_neg om] at this;exact this
      have hfa:∀o,(wr.alloc o).frozen? ⟨b,2+k,none⟩=false:=λo=>(hM.tab.alloc o).frozen _;go_wp2
      go_region
      go_wp2_with fail;have hH0:=Half.start hM hlt ah6 hbr hjb;have JI:Below w.heap.size w ((wr.setCell ⟨b,2+k,none⟩ (.slice (some ⟨wr.heap.size,0,none⟩) p.length p.length)).alloc (.cells (madeCells #[.int .i64 0] p.length) 3)).drew:=((hBr.setCell (p:=⟨b,2+k,none⟩) GL _).alloc (by rw[World.size_setCell];exact hBr.size) _).drew;have hsn:((wr.setCell ⟨b,2+k,none⟩ (.slice (some ⟨wr.heap.size,0,none⟩) p.length p.length)).alloc (.cells (madeCells #[.int .i64 0] p.length) 3)).drew.heap.size=wr.heap.size+1:=sj;generalize ((wr.setCell ⟨b,2+k,none⟩ (.slice (some ⟨wr.heap.size,0,none⟩) p.length p.length)).alloc (.cells (madeCells #[.int .i64 0] p.length) 3)).drew=W1 at*;generalize adf:(λi=>if i=k then wr.heap.size else jb i)=jc at*
      have ade:jc k=wr.heap.size:=by rw[←adf];simp
      have HJ:=jh ade;clear ade adf hM hca hfa hBr;generalize wr.heap.size=J at*;clear hjb;obtain⟨wo,rfl⟩:=nG (wr:World)
      go_loopw [52] (λvv wx=>∃v:Nat,v≤p.length∧vv=.int .i64 v∧Half wx b db k v jc p∧Below w.heap.size w wx∧b<wx.heap.size) (λvv _=>p.length-(intOf vv).toNat)
      case atStart=>exact⟨0,om,rfl,hH0,JI,om⟩
      case round=>
       clear hH0 JI hsn;obtain⟨v,hv,rfl,hH,hBx,hbx⟩:=hrel
       by_cases hvl:v<p.length
       ·have hvi:(0:Int)≤v∧(v:Int)<p.length:=om;have hsk:=hH.slot (i:=k) om hlt;have hst:=hH.cur.cell hvl;have hsf:=hH.cur.frozen v;rw[HJ.out] at hsk hst hsf
        cases k with
        |zero=>
         have hix:=hS.ix v hvl;have hcv:=Sl.at (hS.below (hBx.mono hB)) hvl;have hs0:wr.cell? ⟨b,2,none⟩=some (.slice (some ⟨J,0,none⟩) p.length p.length):=hsk;have hval:=FZ hvl HR.out;have HV:=jh hval;clear hval;go_wp2
         go_region
         go_wp2;go_roundw
         case rel=>exact⟨v+1,om,by go_num,by have h1:=(hH.store (x:=nth p v) HV.out).drew;rw[HJ.out] at h1;exact h1,(hBx.setCell (p:=⟨J,v,none⟩) (by have:=GL;show _≤J;omega) _).drew,by simp;omega⟩
         case measure=>simp[intOf];omega
        |succ k'=>
         have hk0:((((k'+1:Nat):Int))==0)=false:=by simp;omega
         have hsp:=hH.slot (i:=k') om hlt;have aox:(0:Int)≤k'∧(k':Int)<13:=om;have hcp:=(hH.jmp k' om).cell hvl
         have hgen:∀(x:Int),x=oi (aL p (2 ^ (k'+1)) v)→Half (wr.setCell ⟨J,v,none⟩ (.int .i64 x)) b db (k'+1) (v+1) jc p:=λx hx=>by
          have h1:=hH.store hx;rw[HJ.out] at h1;exact h1
         have HG:=jh hgen;clear hgen
         cases hm:aL p (2 ^ k') v with
         |none=>
          have hval:(-1:Int)=oi (aL p (2 ^ (k'+1)) v):=by rw[Nat.pow_succ,Nat.mul_two,jg,hm];rfl
          rw[hm] at hcp;replace hcp:wr.cell? ⟨jc k',v,none⟩=some (.int .i64 (-1)):=hcp;have HV:=jh hval;clear hval hm;go_wp2;go_roundw
          case rel=>exact⟨v+1,om,by go_num,HG.out _ HV.out,hBx.setCell (p:=⟨J,v,none⟩) (by have:=GL;show _≤J;omega) _,by simp;omega⟩
          case measure=>simp[intOf];omega
         |some m=>
          have hml:=uR HT.out hvl hm;have hmi:(0:Int)≤m∧(m:Int)<p.length:=om;have hcm:=(hH.jmp k' om).cell hml
          have hval:oi (aL p (2 ^ k') m)=oi (aL p (2 ^ (k'+1)) v):=by rw[Nat.pow_succ,Nat.mul_two,jg,hm];rfl
          rw[hm] at hcp;replace hcp:wr.cell? ⟨jc k',v,none⟩=some (.int .i64 m):=hcp;have HV:=jh hval;clear hval hm;go_wp2;go_roundw
          case rel=>exact⟨v+1,om,by go_num,HG.out _ HV.out,hBx.setCell (p:=⟨J,v,none⟩) (by have:=GL;show _≤J;omega) _,by simp;omega⟩
          case measure=>simp[intOf];omega
       ·obtain rfl:v=p.length:=om;go_wp2;go_roundw
        case rel=>exact⟨k+1,jc,om,by go_num,hH.done,hBx,hbx,hH.Ia⟩
        case measure=>simp[intOf];omega
     ·obtain rfl:k=13:=om;go_wp2;go_ret2;exact⟨hBr,.inr ⟨zq.2 HT.out,b,rfl,hM.held HT.out hp GL hdb λi hi=>Nat.le_trans GL (Nat.le_of_lt (hjb i hi))⟩⟩
def XC (gb sb lb n m:Nat) (ev:Value):Nat→Value
 |0=>.pointer (some ⟨gb,0,none⟩)
 |1=>ev
 |2=>.slice (some ⟨sb,0,none⟩) (n+1) (n+1)
 |_=>.slice (some ⟨lb,0,none⟩) (2*m) (2*m)
def xD (f:Nat→Nat) (i:Nat):Value:=.int .i64 (f i:Nat)
def Y4 (f:Nat→Int) (i:Nat):Value:=.int .i64 (f i)
structure tO (w0:World) (gb sb lb n m:Nat) (ev:Value) (f:Nat→Nat) (h:Nat→Int) (w:World):Prop where
 dO:Below w0.heap.size w0 w
 g0:w0.heap.size≤gb
 s0:w0.heap.size≤sb
 l0:w0.heap.size≤lb
 gs:gb≠sb
 gl:gb≠lb
 sl:sb≠lb
 gr:Row w gb 4 (XC gb sb lb n m ev)
 st:Row w sb (n+1) (xD f)
 ls:Row w lb (2*m) (Y4 h)
section
variable {w0 w w':World} {gb sb lb n m:Nat} {ev:Value} {f f':Nat→Nat} {h h':Nat→Int}
theorem tO.alloc (S:tO w0 gb sb lb n m ev f h w) (o:Obj):tO w0 gb sb lb n m ev f h (w.alloc o):=
 ⟨S.dO.alloc S.dO.size o,S.g0,S.s0,S.l0,S.gs,S.gl,S.sl,S.gr.alloc o,S.st.alloc o,S.ls.alloc o⟩
theorem tO.drew (S:tO w0 gb sb lb n m ev f h w):tO w0 gb sb lb n m ev f h w.drew:=
 ⟨S.dO.drew,S.g0,S.s0,S.l0,S.gs,S.gl,S.sl,S.gr,S.st,S.ls⟩
theorem tO.start (S:tO w0 gb sb lb n m ev f h w) (i x:Nat) {y:Int} (hy:y=(x:Nat)):tO w0 gb sb lb n m ev (λj=>if j=i then x else f j) h (w.setCell ⟨sb,i,none⟩ (.int .i64 y)):=by
 subst hy;exact⟨S.dO.setCell (p:=⟨sb,i,none⟩) S.s0 _,S.g0,S.s0,S.l0,S.gs,S.gl,S.sl,S.gr.setOther S.gs _,(S.st.set i _).congr λj _=>by unfold xD;dsimp only;split<;>rfl,S.ls.setOther (λe=>S.sl e.symm) _⟩
theorem tO.list (S:tO w0 gb sb lb n m ev f h w) (i:Nat) (x:Int):tO w0 gb sb lb n m ev f (λj=>if j=i then x else h j) (w.setCell ⟨lb,i,none⟩ (.int .i64 x)):=
 ⟨S.dO.setCell (p:=⟨lb,i,none⟩) S.l0 _,S.g0,S.s0,S.l0,S.gs,S.gl,S.sl,S.gr.setOther S.gl _,S.st.setOther S.sl _,(S.ls.set i _).congr λj _=>by unfold Y4;dsimp only;split<;>rfl⟩
theorem tO.congr (S:tO w0 gb sb lb n m ev f h w) (e:∀i≤n,f i=f' i):tO w0 gb sb lb n m ev f' h w:=
 ⟨S.dO,S.g0,S.s0,S.l0,S.gs,S.gl,S.sl,S.gr,S.st.congr λi hi=>by unfold xD;rw[e i om],S.ls⟩
theorem Sb {t e:TypeId} {m:Nat} {f:Nat→Nat→Value} {w w':World} {en:Ending} (E:ET t e 1 8) (h:yB t e 1 m f w en w') (hm:0<m):
  ∃g cap,en=.returned (.slice (some ⟨g,0,none⟩) m cap)∧Row w' g m (λi=>f i 0)∧w.heap.size≤g∧Below w.heap.size w w':=by
 obtain⟨a,cap,A,h1,h2,h3,h4⟩:=h
 rcases h4 with rfl |⟨g,rfl,hg,hr⟩
 ·obtain⟨_,h5,_⟩:=h2.view E hm;cases h5
 ·refine⟨g,cap,h1,(Row.owned hr).congr λi hi=>?_,hg,h3⟩;have:=iy (f:=f) (n:=m) (size:=1) hi (show 0<1 by omega);simp only[Nat.mul_one,Nat.add_zero] at this;simp only[List.getD,this,Option.getD_some]
theorem tO.other (S:tO w0 gb sb lb n m ev f h w) {b:Nat} (h0:w0.heap.size≤b) (h1:gb≠b) (h2:sb≠b) (h3:lb≠b) (i:Nat) (x:Value):tO w0 gb sb lb n m ev f h (w.setCell ⟨b,i,none⟩ x):=
 ⟨S.dO.setCell (p:=⟨b,i,none⟩) h0 _,S.g0,S.s0,S.l0,S.gs,S.gl,S.sl,S.gr.setOther h1 _,S.st.setOther h2 _,S.ls.setOther h3 _⟩
theorem tO.later (S:tO w0 gb sb lb n m ev f h w) (hb:Below w.heap.size w w'):tO w0 gb sb lb n m ev f h w':=
 ⟨S.dO.trans (hb.mono S.dO.size),S.g0,S.s0,S.l0,S.gs,S.gl,S.sl,S.gr.below hb S.gr.lt,S.st.below hb S.st.lt,S.ls.below hb S.ls.lt⟩
end
theorem J3 {w W:World} {gb sb lb n m:Nat} {ev:Value} (dO:Below w.heap.size w W) (g0:w.heap.size≤gb) (s0:w.heap.size≤sb) (l0:w.heap.size≤lb) (gs:gb≠sb) (gl:gb≠lb) (sl:sb≠lb)
  (gr:Row W gb 4 (λi=>if i=0 then .pointer none else XC gb sb lb n m ev i)) (st:Row W sb (n+1) (λ_=>.int .i64 0)) (ls:Row W lb (2*m) (λ_=>.int .i64 0)):
  tO w gb sb lb n m ev (λ_=>0) (λ_=>0) (W.setCell ⟨gb,0,none⟩ (.pointer (some ⟨gb,0,none⟩))):=
 ⟨dO.setCell (p:=⟨gb,0,none⟩) g0 _,g0,s0,l0,gs,gl,sl,(gr.set 0 _).congr λj _=>by
  by_cases h:j=0
  ·subst h;rfl
  ·rw[if_neg h,if_neg h],
 st.setOther (λe=>gs e.symm) _,ls.setOther (λe=>gl e.symm) _⟩
theorem aan (w:World) (n m:Nat) (ev:Value):
  tO w (w.heap.size+1+1) w.heap.size (w.heap.size+1) n m ev (λ_=>0) (λ_=>0) ((((((w.alloc (.cells (madeCells #[.int .i64 0] (n+1)) 3)).alloc (.cells (madeCells #[.int .i64 0] (2*m)) 3)).alloc (.cells #[.pointer none,ev,.slice (some ⟨w.heap.size,0,none⟩) (n+1) (n+1),.slice (some ⟨w.heap.size+1,0,none⟩) (2*m) (2*m)] 304))).drew).setCell ⟨w.heap.size+1+1,0,none⟩ (.pointer (some ⟨w.heap.size+1+1,0,none⟩)))∧
  Row ((((w.alloc (.cells (madeCells #[.int .i64 0] (n+1)) 3)).alloc (.cells (madeCells #[.int .i64 0] (2*m)) 3)).alloc (.cells #[.pointer none,ev,.slice (some ⟨w.heap.size,0,none⟩) (n+1) (n+1),.slice (some ⟨w.heap.size+1,0,none⟩) (2*m) (2*m)] 304))).drew (w.heap.size+1+1) 4 (λi=>if i=0 then .pointer none else XC (w.heap.size+1+1) w.heap.size (w.heap.size+1) n m ev i):=by
 have h1:=Row.made w (.int .i64 0) (n+1) 3;have h2:=Row.made (w.alloc (.cells (madeCells #[.int .i64 0] (n+1)) 3)) (.int .i64 0) (2*m) 3;rw[World.size_alloc] at h2
 have h3:=Row.lit (n:=4) (f:=λi=>if i=0 then .pointer none else XC (w.heap.size+1+1) w.heap.size (w.heap.size+1) n m ev i) ((w.alloc (.cells (madeCells #[.int .i64 0] (n+1)) 3)).alloc (.cells (madeCells #[.int .i64 0] (2*m)) 3)) #[.pointer none,ev,.slice (some ⟨w.heap.size,0,none⟩) (n+1) (n+1),.slice (some ⟨w.heap.size+1,0,none⟩) (2*m) (2*m)] 304 sj (λi hi=>by
  match i,hi with
  |0,_=>rfl
  |1,_=>rfl
  |2,_=>rfl
  |3,_=>rfl)
 rw[World.size_alloc,World.size_alloc] at h3;exact⟨J3 ((((Below.refl _ w).alloc (Nat.le_refl _) _).alloc sj _).alloc (by simp;omega) _).drew om om om om om om h3.drew ((h1.alloc _).alloc _).drew (h2.alloc _).drew,h3.drew⟩
theorem aam (w:World) (n m:Nat) (ev:Value):
  tO w (w.heap.size+1+1) (w.heap.size+1) w.heap.size n m ev (λ_=>0) (λ_=>0) ((((((w.alloc (.cells (madeCells #[.int .i64 0] (2*m)) 3)).alloc (.cells (madeCells #[.int .i64 0] (n+1)) 3)).alloc (.cells #[.pointer none,ev,.slice (some ⟨w.heap.size+1,0,none⟩) (n+1) (n+1),.slice (some ⟨w.heap.size,0,none⟩) (2*m) (2*m)] 304))).drew).setCell ⟨w.heap.size+1+1,0,none⟩ (.pointer (some ⟨w.heap.size+1+1,0,none⟩)))∧
  Row ((((w.alloc (.cells (madeCells #[.int .i64 0] (2*m)) 3)).alloc (.cells (madeCells #[.int .i64 0] (n+1)) 3)).alloc (.cells #[.pointer none,ev,.slice (some ⟨w.heap.size+1,0,none⟩) (n+1) (n+1),.slice (some ⟨w.heap.size,0,none⟩) (2*m) (2*m)] 304))).drew (w.heap.size+1+1) 4 (λi=>if i=0 then .pointer none else XC (w.heap.size+1+1) (w.heap.size+1) w.heap.size n m ev i):=by
 have h1:=Row.made w (.int .i64 0) (2*m) 3;have h2:=Row.made (w.alloc (.cells (madeCells #[.int .i64 0] (2*m)) 3)) (.int .i64 0) (n+1) 3;rw[World.size_alloc] at h2
 have h3:=Row.lit (n:=4) (f:=λi=>if i=0 then .pointer none else XC (w.heap.size+1+1) (w.heap.size+1) w.heap.size n m ev i) ((w.alloc (.cells (madeCells #[.int .i64 0] (2*m)) 3)).alloc (.cells (madeCells #[.int .i64 0] (n+1)) 3)) #[.pointer none,ev,.slice (some ⟨w.heap.size+1,0,none⟩) (n+1) (n+1),.slice (some ⟨w.heap.size,0,none⟩) (2*m) (2*m)] 304 sj (λi hi=>by
  match i,hi with
  |0,_=>rfl
  |1,_=>rfl
  |2,_=>rfl
  |3,_=>rfl)
 rw[World.size_alloc,World.size_alloc] at h3;exact⟨J3 ((((Below.refl _ w).alloc (Nat.le_refl _) _).alloc sj _).alloc (by simp;omega) _).drew om om om om om om h3.drew (h2.alloc _).drew ((h1.alloc _).alloc _).drew,h3.drew⟩
theorem Nf (B:Nat) (a:Option Addr) (cap n:Nat) (A:Nat→Addr) (E:List Ed) (w:World) (G:tZ n E) (hS:ES w B (.slice a E.length cap) E A) (hB:B≤w.heap.size):
  Calls Tryz.prog 188 #[.int .i64 n,.slice a E.length cap] w λe w'=>∃gb sb lb h,e=.returned (.pointer (some ⟨gb,0,none⟩))∧tO w gb sb lb n E.length (.slice a E.length cap) (pre E) h w'∧WJ E n E.length h:=by
 have hn:=G.qK;have hm:=G.Gh
 have Zf:∀w,(Instr.makeSlice 62 (.int .i64 ((n:Int)+1)) (.int .i64 ((n:Int)+1))).run Tryz.prog w=.ok (.slice (some ⟨w.heap.size,0,none⟩) (n+1) (n+1)) (w.alloc (.cells (madeCells #[.int .i64 0] (n+1)) 3)):=λw=>by
  have:=run_make_row' (P:=Tryz.prog) 62 3 (.int .i64 0) 8 Tryz.underlying62 Tryz.ng rfl .i64 .i64 (n+1) om om w;simpa using this
 have Gv:∀w,(Instr.makeSlice 62 (.int .i64 (2*(E.length:Int))) (.int .i64 (2*(E.length:Int)))).run Tryz.prog w=.ok (.slice (some ⟨w.heap.size,0,none⟩) (2*E.length) (2*E.length)) (w.alloc (.cells (madeCells #[.int .i64 0] (2*E.length)) 3)):=λw=>by
  have:=run_make_row' (P:=Tryz.prog) 62 3 (.int .i64 0) 8 Tryz.underlying62 Tryz.ng rfl .i64 .i64 (2*E.length) om om w;simpa using this
 go_in
 go_upto_region 1 with fail
 go_cut [5] (λs5 wx=>∃gb sb lb,s5=.pointer (some ⟨gb,0,none⟩)∧tO w gb sb lb n E.length (.slice a E.length cap) (λ_=>0) (λ_=>0) (wx.setCell ⟨gb,0,none⟩ (.pointer (some ⟨gb,0,none⟩)))∧Row wx gb 4 (λi=>if i=0 then .pointer none else XC gb sb lb n E.length (.slice a E.length cap) i))
 case first=>
  go_region
  all_goals go_wp2_with fail
  all_goals go_meet
  ·exact⟨_,_,_,rfl,aan _ _ _ _⟩
  ·exact⟨_,_,_,rfl,aam _ _ _ _⟩
 case rest=>
  obtain⟨gb,sb,lb,rfl,S0,R0⟩:=hcut;have r0:=R0.c 0;have z0:=R0.frozen 0;clear R0;go_wp2_with fail;clear r0 z0;generalize wc.setCell ⟨gb,0,none⟩ (.pointer (some ⟨gb,0,none⟩))=w1 at*;clear Zf Gv
  go_loopw [30] (λi wr=>∃k:Nat,k≤E.length∧i=.int .i64 k∧tO w gb sb lb n E.length (.slice a E.length cap) (cntF E k) (λ_=>0) wr) (λi _=>E.length-(intOf i).toNat)
  case atStart=>exact⟨0,Nat.zero_le _,rfl,S0.congr λi _=>(MR E i).symm⟩
  case round=>
   obtain⟨k,hk,rfl,S⟩:=hrel;have n1:=S.gs;have n2:=S.gl;have n3:=S.sl
   by_cases hlt:k<E.length
   ·obtain⟨u,v,hu,hv,hun,NJ,huv⟩:=G.Gc hlt;have hEr:=hS.below (S.dO.mono hB);have e0:=ES.u hEr hlt;have e1:=ES.v hEr hlt;have e2:=ES.w hEr hlt;rw[hu] at e0;rw[hv] at e1;have ix:=hEr.ix k hlt;have S1:=S.alloc (.cells #[.int .i64 (u:Int),.int .i64 (v:Int),.int .i64 (aR E k).w] 242)
    have x0:(wr.alloc (.cells #[.int .i64 (u:Int),.int .i64 (v:Int),.int .i64 (aR E k).w] 242)).cell? ⟨wr.heap.size,0,none⟩=some (.int .i64 (u:Int)):=by go_simp
    have x1:(wr.alloc (.cells #[.int .i64 (u:Int),.int .i64 (v:Int),.int .i64 (aR E k).w] 242)).cell? ⟨wr.heap.size,1,none⟩=some (.int .i64 (v:Int)):=by go_simp
    have q2:wr.heap.size≠sb:=oC S.st.lt;have HU:=jh hu;have HV:=jh hv;have b1:=JY E k (u+1);have b2:=JY E k (v+1);have hvu:v≠u:=λe=>huv e.symm;clear hu hv hEr S;go_wp2_with fail;clear e0 e1 e2 ix;generalize (wr.alloc (.cells #[.int .i64 (u:Int),.int .i64 (v:Int),.int .i64 (aR E k).w] 242))=W1 at*;have c2:W1.cell? ⟨gb,2,none⟩=some (.slice (some ⟨sb,0,none⟩) (n+1) (n+1)):=S1.gr.cell om;have s1:=S1.st.c (u+1);have s2:=S1.st.c (v+1);unfold xD at s1 s2;have z1:=S1.st.frozen (u+1);have z2:=S1.st.frozen (v+1)
    go_region
    go_wp2
    go_region
    go_wp2;go_roundw
    case rel=>exact⟨k+1,om,by go_num,(((S1.start (u+1) (cntF E k (u+1)+1) om).start (v+1) (cntF E k (v+1)+1) om).drew.drew).congr λi _=>(cntF_step HU.out HV.out huv i).symm⟩
    case measure=>simp only[intOf];omega
   ·obtain rfl:k=E.length:=om;have S2:=S.congr λi _=>(PU E i).symm;clear S S0;go_wp2_with fail;generalize wr=w2 at*
    go_loopw [58] (λi wr=>∃k:Nat,k≤n∧i=.int .i64 k∧tO w gb sb lb n E.length (.slice a E.length cap) (pfx E k) (λ_=>0) wr) (λi _=>n-(intOf i).toNat)
    case atStart=>exact⟨0,Nat.zero_le _,rfl,S2⟩
    case round=>
     obtain⟨k,hk2,rfl,S⟩:=hrel
     by_cases hlt:k<n
     ·have c2:wr.cell? ⟨gb,2,none⟩=some (.slice (some ⟨sb,0,none⟩) (n+1) (n+1)):=S.gr.cell om;have s1:=S.st.c (k+1);have s2:=S.st.c k;unfold xD at s1 s2;have z1:=S.st.frozen (k+1);have b1:=PW G (k:=k) (x:=k+1) om;have b2:=PW G (k:=k) (x:=k) om;go_wp2
      go_region
      go_wp2;go_roundw
      case rel=>exact⟨k+1,om,by go_num,((S.start (k+1) (pfx E k (k+1)+pfx E k k) om).drew).congr λi _=>(PV E k i).symm⟩
      case measure=>simp only[intOf];omega
     ·obtain rfl:k=n:=om;have S3:=S.congr (f':=pre E) λi hi=>U5 hi;have c2:wr.cell? ⟨gb,2,none⟩=some (.slice (some ⟨sb,0,none⟩) (k+1) (k+1)):=S3.gr.cell om;clear S S2;go_wp2_with fail;clear c2;refine(Z9 wr.heap.size (some ⟨sb,0,none⟩) (k+1) (k+1) _ (λi _=>.int .i64 (pre E i:Nat)) wr (Rd.addr Cw (λ_=>S3.st.lt) λi hi j hj=>?_) (Nat.le_refl _) (λ_ _ _ _=>rfl) om).mono ?_
      ·obtain rfl:j=0:=om;rw[kV];simp only[Nat.mul_one,Nat.add_zero,Nat.zero_add];exact S3.st.cell hi
      rintro e w3 h3;obtain⟨nb,anU,rfl,hN,hnb,hb3⟩:=Sb Cw h3 om;have S4:=S3.later hb3;have m1:gb≠nb:=oC S3.gr.lt;have m2:sb≠nb:=oC S3.st.lt;have m3:lb≠nb:=oC S3.ls.lt;have m0:w.heap.size≤nb:=oC S3.dO.size
      have N4:Row w3 nb (k+1) (xD (qZ E 0)):=hN.congr λi _=>by unfold xD;rw[Qe]
      clear h3 S3 hb3 hN hnb;go_wp2
      go_loopw [86] (λi wr=>∃(j:Nat) (h:Nat→Int),j≤E.length∧i=.int .i64 j∧tO w gb sb lb k E.length (.slice a E.length cap) (pre E) h wr∧WJ E k j h∧Row wr nb (k+1) (xD (qZ E j))) (λi _=>E.length-(intOf i).toNat)
      case atStart=>exact⟨0,_,Nat.zero_le _,rfl,S4,WJ.zero _ _ _,N4⟩
      case round=>
       obtain⟨j,h,hj,rfl,S,hL,N⟩:=hrel
       by_cases hlt:j<E.length
       ·obtain⟨u,v,hu,hv,hun,NJ,huv⟩:=G.Gc hlt;have hEr:=hS.below (S.dO.mono hB);have e0:=ES.u hEr hlt;have e1:=ES.v hEr hlt;have e2:=ES.w hEr hlt;rw[hu] at e0;rw[hv] at e1;have ix:=hEr.ix j hlt;have S1:=S.alloc (.cells #[.int .i64 (u:Int),.int .i64 (v:Int),.int .i64 (aR E j).w] 242);have N1:=N.alloc (.cells #[.int .i64 (u:Int),.int .i64 (v:Int),.int .i64 (aR E j).w] 242);have HU:=jh hu;have HV:=jh hv;clear hu hv hEr S N;go_wp2_with fail;clear e0 e1 e2 ix;generalize (wr.alloc (.cells #[.int .i64 (u:Int),.int .i64 (v:Int),.int .i64 (aR E j).w] 242))=W1 at*;have c3:W1.cell? ⟨gb,3,none⟩=some (.slice (some ⟨lb,0,none⟩) (2*E.length) (2*E.length)):=S1.gr.cell om;have t1:=N1.c u;unfold xD at t1;have y1:=N1.frozen u;have b1:=G.Qg hlt hun (Xr HU.out);have l1:=S1.ls.cell b1;have z1:=S1.ls.frozen (qZ E j u);refine wp_loop_rounds 3 ?_;rw[rounds_succ]
        have i0:∀w,(Instr.index 209 (.agg #[.int .i64 (u:Int),.int .i64 (v:Int)]) (.int .i64 0)).run Tryz.prog w=.ok (.int .i64 (u:Int)) w:=λ_=>by kernel_rfl
        have i1:∀w,(Instr.index 209 (.agg #[.int .i64 (u:Int),.int .i64 (v:Int)]) (.int .i64 1)).run Tryz.prog w=.ok (.int .i64 (v:Int)) w:=λ_=>by kernel_rfl
        go_wp2
        go_region
        go_wp2_with fail;have S2:=((S1.list (qZ E j u) j).other m0 m1 m2 m3 u (.int .i64 ((qZ E j u:Int)+1))).drew;have N2:=((N1.setOther (a:=⟨lb,qZ E j u,none⟩) (λe=>m3 e.symm) (.int .i64 j)).set u (.int .i64 ((qZ E j u:Int)+1))).drew;generalize (((W1.setCell ⟨lb,qZ E j u,none⟩ (.int .i64 j)).setCell ⟨nb,u,none⟩ (.int .i64 ((qZ E j u:Int)+1))).drew)=W2 at*;clear c3 t1 y1 l1 z1 b1 S1 N1;have c3:W2.cell? ⟨gb,3,none⟩=some (.slice (some ⟨lb,0,none⟩) (2*E.length) (2*E.length)):=S2.gr.cell om;have t1:W2.cell? ⟨nb,v,none⟩=some (.int .i64 (qZ E j v:Nat)):=(N2.c v).trans (by rw[if_neg (λe=>huv e.symm)];rfl);have y1:=N2.frozen v;have b1:=G.Qg hlt NJ (Xq HV.out);have l1:=S2.ls.cell b1;have z1:=S2.ls.frozen (qZ E j v);rw[rounds_succ];go_wp2
        go_region
        go_wp2_with fail;have S3:=((S2.list (qZ E j v) j).other m0 m1 m2 m3 v (.int .i64 ((qZ E j v:Int)+1))).drew;have N3:=((N2.setOther (a:=⟨lb,qZ E j v,none⟩) (λe=>m3 e.symm) (.int .i64 j)).set v (.int .i64 ((qZ E j v:Int)+1))).drew;generalize (((W2.setCell ⟨lb,qZ E j v,none⟩ (.int .i64 j)).setCell ⟨nb,v,none⟩ (.int .i64 ((qZ E j v:Int)+1))).drew)=W3 at*;clear c3 t1 y1 l1 z1 b1 S2 N2;rw[rounds_succ];go_wp2;go_roundw
        case rel=>
         refine⟨j+1,_,om,by go_num,S3,hL.step hlt HU.out HV.out,N3.congr λi _=>?_⟩;simp only[xD,Qf HU.out HV.out]
         split
         ·rfl
         ·split<;>rfl
        case measure=>simp only[intOf];omega
       ·obtain rfl:j=E.length:=om;go_wp2;go_ret;exact⟨gb,sb,lb,h,rfl,S,hL⟩
structure WY (w:World) (B b n:Nat) (E:List Ed):Prop where
 ok:tZ n E
 lt:b<B
 mem:∃sb lb a cap h A,sb<B∧lb<B∧Row w b 4 (XC b sb lb n E.length (.slice a E.length cap))∧Row w sb (n+1) (xD (pre E))∧Row w lb (2*E.length) (Y4 h)∧WJ E n E.length h∧ES w B (.slice a E.length cap) E A
def aj8 (n:Int) (E:List Ed) (w:World) (e:Ending) (w':World):Prop:=
 Below w.heap.size w w'∧((j5 n E≠0∧e=.returned (.tuple #[.pointer none,.int .i64 (j5 n E)]))∨
  (∃b k:Nat,n=k∧tZ k E∧e=.returned (.tuple #[.pointer (some ⟨b,0,none⟩),.int .i64 0])∧WY w' w'.heap.size b k E))
theorem Nj {n:Int} {e:Ed} (h:e.u<0∨n≤e.u∨e.v<0∨n≤e.v):vO n e=true:=by simp only[vO,decide_eq_true_eq];exact h
theorem xP {n:Int} {E:List Ed} (h:n<0∨4096<n∨16384<E.length):j5 n E=2:=by rw[j5,if_pos h]
theorem Rt (B:Nat) (a:Option Addr) (cap:Nat) (A:Nat→Addr) (n:Int) (E:List Ed) (w:World) (hS:ES w B (.slice a E.length cap) E A) (hB:B≤w.heap.size) (hm:E.length≤9223372036854775807):
  Calls Tryz.prog 170 #[.int .i64 n,.slice a E.length cap] w (aj8 n E w):=by
 by_cases h1:n<0
 ·have he:=jh (xP (n:=n) (E:=E) (.inl h1));go_in;go_wp2;go_ret2;exact⟨Below.refl _ _,.inl (by rw[he.out];exact⟨by decide,rfl⟩)⟩
 by_cases h2:4096<n
 ·have he:=jh (xP (n:=n) (E:=E) (.inr (.inl h2)));go_in;go_wp2;go_ret2;exact⟨Below.refl _ _,.inl (by rw[he.out];exact⟨by decide,rfl⟩)⟩
 by_cases h3:16384<E.length
 ·have he:=jh (xP (n:=n) (E:=E) (.inr (.inr h3)));go_in;go_wp2;go_ret2;exact⟨Below.refl _ _,.inl (by rw[he.out];exact⟨by decide,rfl⟩)⟩
 have he:=jh (show j5 n E=jk n E by rw[j5,if_neg om]);go_in;go_wp2
 go_loopw [21] (λi wr=>∃k:Nat,k≤E.length∧i=.int .i64 k∧Hid (jk n E=jk n (E.drop k))∧Below w.heap.size w wr) (λi _=>E.length-(intOf i).toNat)
 case atStart=>exact⟨0,Nat.zero_le _,rfl,jh rfl,Below.refl _ _⟩
 case round=>
  obtain⟨k,hk,rfl,hs,dO⟩:=hrel
  by_cases hlt:k<E.length
  ·have hEr:=hS.below (dO.mono hB);have e0:=ES.u hEr hlt;have e1:=ES.v hEr hlt;have e2:=ES.w hEr hlt;have ix:=hEr.ix k hlt;have nu:=λo=>dO.alloc dO.size o
   by_cases c1:(aR E k).u<0∨n≤(aR E k).u∨(aR E k).v<0∨n≤(aR E k).v
   ·have hf:=jh (hs.out.trans (K8 hlt (Nj c1)))
    rcases c1 with c |c |c |c
    ·go_wp2;go_ret2;exact⟨nu _,.inl (by rw[he.out,hf.out];exact⟨by decide,rfl⟩)⟩
    ·have d1:¬(aR E k).u<0:=om;go_wp2;go_ret2;exact⟨nu _,.inl (by rw[he.out,hf.out];exact⟨by decide,rfl⟩)⟩
    ·by_cases d1:(aR E k).u<0
     ·go_wp2;go_ret2;exact⟨nu _,.inl (by rw[he.out,hf.out];exact⟨by decide,rfl⟩)⟩
     ·by_cases d2:n≤(aR E k).u
      all_goals
       go_wp2;go_ret2;exact⟨nu _,.inl (by rw[he.out,hf.out];exact⟨by decide,rfl⟩)⟩
    ·by_cases d1:(aR E k).u<0
     ·go_wp2;go_ret2;exact⟨nu _,.inl (by rw[he.out,hf.out];exact⟨by decide,rfl⟩)⟩
     ·by_cases d2:n≤(aR E k).u
      ·go_wp2;go_ret2;exact⟨nu _,.inl (by rw[he.out,hf.out];exact⟨by decide,rfl⟩)⟩
      ·have d3:¬(aR E k).v<0:=om;go_wp2;go_ret2;exact⟨nu _,.inl (by rw[he.out,hf.out];exact⟨by decide,rfl⟩)⟩
   ·obtain⟨c0,c2,c3,c4⟩:0≤(aR E k).u∧(aR E k).u<n∧0≤(aR E k).v∧(aR E k).v<n:=om;have hb:vO n (aR E k)=false:=xZ.2 ⟨c0,c2,c3,c4⟩
    by_cases c5:(aR E k).u=(aR E k).v
    ·have hf:=jh (hs.out.trans (FK hlt hb c5));have hq:((aR E k).u==(aR E k).v)=true:=beq_iff_eq.2 c5;clear c5 hb c1;go_wp2;go_ret2;exact⟨nu _,.inl (by rw[he.out,hf.out];exact⟨by decide,rfl⟩)⟩
    ·have hf:=jh (hs.out.trans (FJ hlt hb c5));have hq:((aR E k).u==(aR E k).v)=false:=beq_eq_false_iff_ne.2 c5;clear c5 hb c1;go_wp2;go_roundw
     case rel=>exact⟨k+1,om,by go_num,hf,nu _⟩
     case measure=>simp only[intOf];omega
  ·obtain rfl:k=E.length:=om;have h0:=hs.out;rw[K7] at h0;obtain⟨q,rfl,G⟩:=zU (he.out.trans h0);clear h0 hs;go_wp2_with fail;refine(aac B a cap E.length A (edC E) wr (hS.below (dO.mono hB)) (oC dO.size) (λi _ j _=>Wj E i j) om).mono ?_;rintro e w2 ⟨a2,cap2,A2,rfl,S2,b2,-⟩;go_wp2_with fail;refine(Nf w2.heap.size a2 cap2 q A2 E w2 G S2 (Nat.le_refl _)).mono ?_;rintro e w3 ⟨gb,sb,lb,f,rfl,S3,L3⟩;go_wp2;go_ret2;have b3:=S3.dO;exact⟨dO.trans ((b2.trans (b3.mono b2.size)).mono dO.size),.inr ⟨gb,q,rfl,G,rfl,G,S3.gr.lt,sb,lb,a2,cap2,f,A2,S3.st.lt,S3.ls.lt,S3.gr,S3.st,S3.ls,L3,(S2.below b3).mono b3.size⟩⟩
end Go.Proofs.YtpaeogglppampaaGreatDoor
