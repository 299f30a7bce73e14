/- Lemmas of the proof. Conditions: as each one states. -/
import Derived.Test.YtpaeogglppampaaGreatDoorQa
import Derived.RangeFuncNested
set_option maxRecDepth 100000
set_option maxHeartbeats 16000000
namespace Go.Proofs.YtpaeogglppampaaGreatDoor
open Go.RowKit
variable {F:Fence} {n:Nat} {P:Program}
def WH {α:Type} (F:Fence) (n:Nat) (P:Program) (g:Nat) (lb:Array Value) (encs:α→Array Value) (Kp:World→World→Prop) (R:List α→α→Prop) (S:List α→Prop) (w:World):Prop:=
 ∀(l:Nat) (J Jx:List α→World→Prop) (W:World),Below w.heap.size w W→AbidesFrom W.heap.size J→AbidesFrom W.heap.size Jx→
  (∀pre x W1,J pre W1→R pre x→YieldAt F (n-1) P l (encs x) W1 λe W'=>
   (e=.returned (.bool true)∧J (pre++[x]) W'∧Kp W1 W')∨(e=.returned (.bool false)∧Jx (pre++[x]) W'))→
  J [] W→
  CallsIn F n P g (#[.func (.yield l) #[] #[]]++lb) W λe W'=>(∃v,e=.returned v)∧((∃xs,S xs∧J xs W')∨(∃pre,Jx pre W'))
theorem FN {α:Type} {g:Operand} {ps:Array Tmp} {assign body:Code} {Q:Exit→Act→World→Prop} {a:Act} {w:World}
  (hro:F.round=none) (h1:1≤n) {gf:Nat} {lb:Array Value} (hg:a.eval g=.func (.func gf) #[] lb) (hFg:F.fn gf) (eg:∀args w,(callFunc gf args).run P w=.ok (.enter gf args) w)
  {encs:α→Array Value} {Kp:World→World→Prop} {R:List α→α→Prop} {S:List α→Prop} {w0:World} (hseq:WH F (n-1) P gf lb encs Kp R S w0)
  (hKt:∀{A B C:World},Kp A B→Kp B C→Kp A C) (hKb:∀(W:World) (l:Nat) (o o':Obj),w.heap.size≤l→W.heap[l]?=some o→o.isCells=false→o.isWalk=false→Kp W (W.putObj l o')) (hb0:Below w0.heap.size w0 w) (hps:∀x,(encs x).size=ps.size)
  (I:List α→World→Prop) (Ix:Code→List α→World→Prop) (hI:OwnFrom w.heap.size I) (hIx:∀c,OwnFrom w.heap.size (Ix c)) (h0:I [] w) (Ax:List α→α→Act→World→Prop) (hAx:∀pre x a',OwnFrom w.heap.size (fun(_:Unit) W=>Ax pre x a' W))
  (hassign:∀(l:Nat) (pre:List α) (x:α) (W:World) (K:Act→World→Prop),I pre W→R pre x→(∀a' W',KeepsFrom w.heap.size W W'→Kp W W'→I pre W'→Ax pre x a' W'→K a' W')→
   assign.wpIn (F.inRound l) (n-1-1) P (Exit.then K (λ_ _ _=>False)) { tmps:=(ps.zip (encs x)).foldl (λt (p,v)=>t.setIfInBounds p v) a.tmps,defers:=[] } W)
  (hbody:∀(l:Nat) (pre:List α) (x:α) (a':Act) (W:World),w.heap.size≤l→(∃r,W.heap[l]?=some (.loop r))→I pre W→Ax pre x a' W→R pre x→body.wpIn (F.inRound l) (n-1-1) P (ownPostG w.heap.size Kp I Ix (pre++[x]) W) a' W)
  (hdone:∀(D:Nat) (xs:List α) (W:World),w.heap.size≤D→S xs→I xs W→W.heap[D]?=some (.deferred (some []))→Q .normal { a with defers:={ target:=.collected D,args:=#[] }::a.defers } W)
  (hstop:∀(D:Nat) (c:Code) (pre:List α) (W:World),w.heap.size≤D→Ix c pre W→W.heap[D]?=some (.deferred (some []))→c.wpIn F n P Q { a with defers:={ target:=.collected D,args:=#[] }::a.defers } W):
  (Code.rangeFunc g ps assign body).wpIn F n P Q a w:=by
 refine wpIn_rangeFunc ?_;intro fn hfn;rw[hro];obtain⟨rec,hrec⟩:∃rec:LoopState→Option Code→Loop,rec=λst pe=>{ state:=st,pending:=pe,fn,tmps:=a.tmps,params:=ps,assign,body,defers:=w.heap.size }:=⟨_,rfl⟩;obtain⟨W1,hW1⟩:=nE ((w.alloc (.deferred (some []))).alloc (.loop (rec .ready none)))
 have hL1:W1.heap[w.heap.size+1]?=some (.loop (rec .ready none)):=by
  rw[←hW1];have:=World.alloc_heap_new (w.alloc (.deferred (some []))) (.loop (rec .ready none));rwa [World.size_alloc] at this
 have hK1:W1.heap[w.heap.size]?=some (.deferred (some [])):=by
  rw[←hW1];exact(Below.heap_alloc _ _ _ sj).trans (World.alloc_heap_new w _)
 have hI1:I [] W1:=by rw[←hW1];exact hI.alloc _ (hI.alloc _ h0)
 have hb1:Below w0.heap.size w0 W1:=by
  rw[←hW1];exact hb0.trans ((((Below.refl _ w).alloc (Nat.le_refl _) _).alloc sj _).mono hb0.size)
 have hsz:w.heap.size+2=W1.heap.size:=by rw[←hW1];simp
 refine⟨w.heap.size+1,[{ target:=.collected w.heap.size,args:=#[] }],W1,{ target:=.fn (.func gf) lb,args:=#[.func (.yield (w.heap.size+1)) #[] #[]] },W1,gf,
  #[.func (.yield (w.heap.size+1)) #[] #[]]++lb,W1,?_,?_,?_,?_,λ_=>h1,?_⟩
 ·rw[←hW1,hrec];exact run_enterLoop_outer _ _ _ _ _
 ·simp only[resolve,hg];simp[go_sem]
 ·intro f' hf';simp[Target.leads] at hf';subst hf';exact hFg
 ·simp[invoke,go_sem,eg]
 ·have hnw:∀{A:World} {row:Option Nat},(∀r,row=some r→W1.heap.size≤r∧∃o:Obj,A.heap[r]?=some o∧o.isWalk=true)→(∀r,row=some r→w.heap.size≤r∧∃o:Obj,A.heap[r]?=some o∧o.isCells=false):=
   λhr r e=>by obtain⟨hB,o,ho,hw⟩:=hr r e;exact⟨om,o,ho,Obj.not_cells_of_walk hw⟩
  refine(hseq (w.heap.size+1)
   (λpre W=>I pre W∧W.heap[w.heap.size+1]?=some (.loop (rec .ready none))∧W.heap[w.heap.size]?=some (.deferred (some [])))
   (λpre W=>∃c,Ix c pre W∧W.heap[w.heap.size+1]?=some (.loop (rec .done (some c)))∧W.heap[w.heap.size]?=some (.deferred (some [])))
   W1 hb1
   (λs A B row hs hg' hr=>⟨hI s A B row hs.1 hg' (hnw hr),(grownBy_keeps hg' (λr e=>(hr r e).2) hs.2.1 rfl).trans hs.2.1,(grownBy_keeps hg' (λr e=>(hr r e).2) hs.2.2 rfl).trans hs.2.2⟩)
   (λs A B row hs hg' hr=>by
    obtain⟨c,hc,hl,hk⟩:=hs
    exact⟨c,hIx c s A B row hc hg' (hnw hr),(grownBy_keeps hg' (λr e=>(hr r e).2) hl rfl).trans hl,(grownBy_keeps hg' (λr e=>(hr r e).2) hk rfl).trans hk⟩)
   ?_ ⟨hI1,hL1,hK1⟩).mono ?_
  ·--one round
   rintro pre x W0 ⟨hi0,hl0,hk0⟩ hR;have hy:=run_yield (P:=P) (args:=encs x) hl0 (by rw[hrec];exact hps x);rw[hrec] at hy;refine⟨fn,_,assign,body,hy,roundIn_of_wpIn hfn (hassign _ pre x W0 _ hi0 hR ?_)⟩;clear hy;intro a' W Zi hkp hi hax;have hl:=Zi.same _ _ om hl0 rfl;have hk:=Zi.same _ _ (Nat.le_refl _) hk0 rfl;have hlt:w.heap.size+1<W.heap.size:=(Array.getElem?_eq_some_iff.1 hl).1;refine⟨_,run_beginRound hl (by rw[hrec]),?_⟩;obtain⟨busy,Et⟩:∃busy:Loop,busy={ rec .ready none with state:=.busy }:=⟨_,rfl⟩;rw[←Et];have hl2:(W.putObj (w.heap.size+1) (.loop busy)).heap[w.heap.size+1]?=some (.loop busy):=World.putObj_heap_same hlt;have hk2:(W.putObj (w.heap.size+1) (.loop busy)).heap[w.heap.size]?=some (.deferred (some [])):=(World.putObj_heap_other om).trans hk;have hw2:Kp W (W.putObj (w.heap.size+1) (.loop busy)):=hKb _ _ _ _ om hl rfl rfl;refine wpIn_mono (hbody _ pre x a' _ om ⟨_,hl2⟩ (hI.putObj _ hi om hl rfl) ((hAx pre x a').putObj (s:=()) _ hax om hl rfl) hR) ?_
   have fin:∀(jump:Option Code) (W3:World),KeepsFrom w.heap.size (W.putObj (w.heap.size+1) (.loop busy)) W3→
     ∃W4,W4=W3.putObj (w.heap.size+1) (.loop (rec (if jump.isNone then .ready else .done) jump))∧
     (Instr.endRound (w.heap.size+1) jump).run P W3=.ok (.bool jump.isNone) W4∧
     W3.heap[w.heap.size+1]?=some (.loop busy)∧
     W4.heap[w.heap.size+1]?=some (.loop (rec (if jump.isNone then .ready else .done) jump))∧
     W4.heap[w.heap.size]?=some (.deferred (some [])):=λjump W3 hk3=>by
    have hl3:=hk3.same _ _ om hl2 rfl;have he:=run_endRound (P:=P) jump hl3;rw[Et,hrec] at he;refine⟨_,rfl,by rw[hrec];exact he,hl3,World.putObj_heap_same (Array.getElem?_eq_some_iff.1 hl3).1,(World.putObj_heap_other om).trans (hk3.same _ _ (Nat.le_refl _) hk2 rfl)⟩
   have left:∀(c:Code) (W3:World),KeepsFrom w.heap.size (W.putObj (w.heap.size+1) (.loop busy)) W3→Ix c (pre++[x]) W3→∃v W4,(Instr.endRound (w.heap.size+1) (some c)).run P W3=.ok v W4∧
     ((Ending.returned v=.returned (.bool true)∧(I (pre++[x]) W4∧W4.heap[w.heap.size+1]?=some (.loop (rec .ready none))∧W4.heap[w.heap.size]?=some (.deferred (some [])))∧Kp W0 W4)∨
     (Ending.returned v=.returned (.bool false)∧∃c,Ix c (pre++[x]) W4∧W4.heap[w.heap.size+1]?=some (.loop (rec .done (some c)))∧W4.heap[w.heap.size]?=some (.deferred (some [])))):=λc W3 hk3 hi3=>by
    obtain⟨W4,e4,hr,hl3,hl4,hk4⟩:=fin (some c) W3 hk3;refine⟨_,W4,hr,.inr ⟨rfl,c,?_,hl4,hk4⟩⟩;rw[e4];exact(hIx _).putObj _ hi3 om hl3 rfl
   rintro e a3 W3 hp
   cases e with
   |normal=>
    obtain⟨hk3,hkp3,hi3⟩:=hp;obtain⟨W4,e4,hr,hl3,hl4,hk4⟩:=fin none W3 hk3;refine⟨_,W4,hr,.inl ⟨rfl,⟨?_,hl4,hk4⟩,?_⟩⟩
    ·rw[e4];exact hI.putObj _ hi3 om hl3 rfl
    ·rw[e4];exact hKt hkp (hKt (hKt hw2 hkp3) (hKb _ _ _ _ om hl3 rfl (by rfl)))
   |ret=>exact left .ret W3 hp.1 hp.2
   |exit id=>exact left (.exit id) W3 hp.1 hp.2
   |goto t=>exact left (.goto t) W3 hp.1 hp.2
   |panic ch=>exact hp.elim
   |outgrown=>exact hp.elim
  ·--behind the iterator
   rintro e W2 ⟨⟨v,rfl⟩,(⟨xs,hS,hi,hl,hk⟩ |⟨pre,c,hi,hl,hk⟩)⟩
   ·exact⟨none,_,by have:=run_endLoop (P:=P) hl (by rw[hrec];simp);rw[hrec] at this;exact this,hdone _ xs _ (Nat.le_refl _) hS (hI.putObj _ hi om hl rfl) ((World.putObj_heap_other om).trans hk)⟩
   ·exact⟨some c,_,by have:=run_endLoop (P:=P) hl (by rw[hrec];simp);rw[hrec] at this;exact this,hstop _ c pre _ (Nat.le_refl _) ((hIx c).putObj _ hi om hl rfl) ((World.putObj_heap_other om).trans hk)⟩
end Go.Proofs.YtpaeogglppampaaGreatDoor
