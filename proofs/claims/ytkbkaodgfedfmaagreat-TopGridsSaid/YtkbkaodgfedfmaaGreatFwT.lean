/- The engine. -/
import Derived.Test.YtkbkaodgfedfmaaGreatFwP
import Derived.OpenShut
import Derived.ChangeAt
import Derived.ChangeOld
namespace Go.Fw
open Go Go.RowKit
/-! ### How arguments read -/
variable {α:Type} {ok:α→Prop}
def Rd (P:Program) (t:TypeId) (El:EP α) (ok:α->Prop):Prop:=
 P.cellsOf t=El.sz∧∀ {H:Type} (enc:TypeId×Value->H) (w:World) (sp:Nat->Bool) (held:Bool) (h:Nat) (cs:List Value) (d:DataW H×List MemPlace),DataW.trod enc P w 0 sp held h t cs=some d->∃ y,El.rep (hp w) cs y∧ok y
variable {P:Program} {t e:TypeId}
theorem Rd.int {k:IntKind} (J:P.cellsOf t=1) (K:P.underlying t=some (.int k)) (h:∀ x:Int,([Value.int k x]:List Value).length=1∧N1 [Value.int k x]=true):Rd P t (KK 1 (λx=>[.int k x]) h) (fE k):=
 ⟨J,λenc w sp held D cs d h=>by obtain⟨n,U,_,O⟩:=DataW.trod_int K h; exact⟨n,U,O⟩⟩
theorem lW {R:Nat->α->Prop}:∀ n,(∀ i,i<n->∃ y,R i y)->∃ ys:List α,ys.length=n∧∀ i y,ys[i]? = some y->R i y
 | 0,_=>⟨[],rfl,λi y h=>by simp at h⟩
 | n+1,h=>by
  obtain⟨ys,K,J⟩:=lW n λi hi=>h i (by omega);obtain⟨y,hy⟩:=h n (by omega);refine⟨ys++[y],by simp[K],λi z D=>?_⟩;rcases Nat.lt_or_ge i ys.length with hi | hi
  . rw[List.getElem?_append_left hi] at D; exact J i z D
  . rw[List.getElem?_append_right hi] at D
    cases hk:i - ys.length with
    | zero=>rw[hk] at D; cases D; rwa [show i=n by omega]
    | succ k=>rw[hk] at D; simp at D
theorem uA {w:World} {D n:Nat} {a:Addr} {cs:List Value} (h:w.cells? D a n=some cs):cs.length=n∧∀ j v,cs[j]? = some v->w.cell? (a.add j)=some v:=by
 unfold World.cells? at h;split at h
 . have O:=mapM_some_length h;refine⟨by simpa using O,λj v K=>?_⟩;have J:j<n:=by have:=(List.getElem?_eq_some_iff.1 K).1; simpa[O] using this
   have:=mapM_some_get h j j (by simp[J]);rw[this,K]
 . cases h
theorem AiX {w:World} {b off:Nat} {cs:List Value} (h:∀ j v,cs[j]? = some v->w.cell? ⟨b,off+j,none⟩=some v) (D:cs≠[]):ImC (hp w) b off cs:=by
 cases cs with
 | nil=>exact absurd rfl D
 | cons u r=>
  have J:=h 0 u rfl;simp only[World.cell?] at J;split at J
  . rename_i c t U K;refine⟨c,t,U,K,λj v O=>?_⟩;have:=h j v O;simp only[World.cell?,K] at this;simpa using this
  . cases J
theorem Rd.slice {El:EP α} (hs:P.cellsOf t=1) (ht:P.underlying t=some (.slice e)) (h0:0<El.sz) (R:Rd P e El ok):Rd P t (mD El) (λxs=>(∀ x∈xs,ok x)∧xs.length<=maxLen):=by
 refine⟨hs,λenc w sp held fuel cs d h=>?_⟩;rcases DataW.trod_slice ht h with⟨rfl,_⟩ | ⟨a,V,cap,D,rest,n,_,rfl,_,hb,hlc,hcm,hel,hget,_⟩
 . exact⟨[],⟨none,0,rfl,.nil _ _ _⟩,by simp,by simp⟩
 . have O:∀ i,i<V->∃ y:α,(∃ cs,w.cells? 0 (a.add (i*El.sz)) El.sz=some cs∧El.rep (hp w) cs y)∧ok y:=by
     intro i hi;have Z:=hget i hi;rw[R.1] at Z;have he:D[i]? = some D[i]:=List.getElem?_eq_getElem (by omega);rw[he] at Z
     cases hc:w.cells? 0 (a.add (i*El.sz)) El.sz with
     | none=>rw[hc] at Z; cases Z
     | some cs=>
      rw[hc] at Z;obtain⟨y,h1,h2⟩:=R.2 enc w sp held n cs _ Z;exact⟨y,⟨cs,rfl,h1⟩,h2⟩
   obtain⟨ys,hy1,hy2⟩:=lW V O;refine⟨ys,⟨some a,cap,by rw[hy1],by omega,λi x hx=>?_⟩,λx hx=>?_,by omega⟩
   . obtain⟨⟨cs,hcs,hrep⟩,_⟩:=hy2 i x hx;obtain⟨hlen,U⟩:=uA hcs;have hne:cs≠[]:=λe=>by subst e; simp at hlen; omega
     have hilt:i<V:=by have:=(List.getElem?_eq_some_iff.1 hx).1; omega
     -- the head of the slice is a place of its own
     have K:a.spot=none:=by
      obtain⟨y0,⟨cs0,hc0,_⟩,_⟩:=O 0 (by omega);obtain⟨hl0,J⟩:=uA hc0
      cases cs0 with
      | nil=>simp at hl0; omega
      | cons u r=>
       have:=J 0 u rfl;simp only[Nat.zero_mul,Addr.add,if_true,World.cell?] at this;split at this
       . cases K:a.spot with
         | none=>rfl
         | some q=>rw[K] at this; cases this
       . cases this
     refine⟨a.block,a.off,cs,by cases a; simp_all,AiX (λj v hj=>?_) hne,hrep⟩;have:=U j v hj
     have e1:(a.add (i*El.sz)).add j=⟨a.block,a.off+i*El.sz+j,none⟩:=by cases a;simp only at K;subst K;unfold Addr.add;split <;> split <;> simp_all
     rwa [e1] at this
   . obtain⟨i,hi⟩:=List.getElem?_of_mem hx;exact(hy2 i x hi).2
theorem MS {H:Type} {enc:TypeId×Value->H} {w:World} {sp:Nat->Bool} {held:Bool} {D:Nat} {cs:List Value} {d:DataW H×List MemPlace} {K:Array Field} (O:P.underlying t=some (.struct K)) (h:DataW.trod enc P w 0 sp held D t cs=some d) :
  cs.length=P.cellsOf t∧∃ n,∀ (i:Nat) (f:Field),K[i]? = some f->∃ x,DataW.trod enc P w 0 sp held n f.type ((cs.drop f.offset).take (P.cellsOf f.type))=some x:=by
 obtain⟨xs,n,_,_,Z,V,U⟩:=DataW.trod_struct O h;refine⟨Z,n,λi f hi=>?_⟩;have J:i<xs.length:=by rw[V]; exact(Array.getElem?_eq_some_iff.1 hi).1
 exact⟨xs[i],by rw[U i f hi]; exact List.getElem?_eq_getElem J⟩
theorem Rd.field {El:EP α} {T:TypeId} {H:Type} {enc:TypeId×Value->H} {w:World} {sp:Nat->Bool} {held:Bool} {n:Nat} {cs:List Value} {D:Array Field} (R:Rd P T El ok)
  (J:∀ (i:Nat) (f:Field),D[i]? = some f->∃ x,DataW.trod enc P w 0 sp held n f.type ((cs.drop f.offset).take (P.cellsOf f.type))=some x) (i:Nat) {f:Field} (hi:D[i]? = some f) (K:f.type=T) {off:Nat} (O:f.offset=off) :
  ∃ y,El.rep (hp w) ((cs.drop off).take El.sz) y∧ok y:=by
 subst K O;obtain⟨x,h⟩:=J i f hi;rw[R.1] at h;exact R.2 enc w sp held n _ _ h
theorem Rd.elemA {El:EP α} {n:Nat} (U:P.underlying t=some (.array n e)) (R:Rd P e El ok) {H:Type} {enc:TypeId×Value->H} {w:World} {sp:Nat->Bool} {held:Bool} {D:Nat} {cs:List Value} {d:DataW H×List MemPlace}
  (h:DataW.trod enc P w 0 sp held D t cs=some d):cs.length=P.cellsOf t∧∀ i,i<n->∃ y,El.rep (hp w) ((cs.drop (i*El.sz)).take El.sz) y∧ok y:=by
 obtain⟨xs,m,_,_,O,hx,K⟩:=DataW.trod_array U h;refine⟨O,λi hi=>?_⟩;have J:i<xs.length:=by omega
 have:=K i hi;rw[R.1,List.getElem?_eq_getElem J] at this;exact R.2 enc w sp held m _ _ this
def AnU (P:Program) (t:TypeId):Bool:=match P.underlying t with
 | some (.struct _) | some (.array _ _)=>true
 | _=>false
variable {H:Type} {enc:TypeId×Value→H} {W:World} {sp:Nat→Bool} {held:Bool} {v:Value} {d:DataW H} {p:List MemPlace}
theorem Rd.argA {El:EP α} (R:Rd P t El ok) (K:Value.okWide P W .any 0 t v) (h:DataW.Trod enc P W 0 sp held t v d p) (D:AnU P t=true):∃ cs y,v=.agg cs∧El.rep (hp W) cs.toList y∧ok y:=by
 obtain⟨J,h⟩:=h;unfold Value.okWide at K;unfold AnU at D
 have:∃ cs,v=.agg cs:=by
  cases hu:P.underlying t with
  | none=>simp[hu] at D
  | some u=>cases u <;> simp[hu] at K D <;> exact⟨_,K.choose_spec.1⟩
 obtain⟨cs,rfl⟩:=this;obtain⟨y,U,O⟩:=R.2 enc W sp held J _ _ h;exact⟨cs,y,rfl,U,O⟩
theorem cK (V:laidOutB P=true) {W O:World} (U:Below W.heap.size W O):∀ {ts:List TypeId} {vs:List Value} {J:List (DataW H)} {D:List MemPlace},(∀ t∈ts,P.readableRec t=true∧t<P.types.size) ->
  (∀ x∈D,x.block<W.heap.size)->DataW.TrodAll enc P W 0 (λ_=>true) true ts vs J D->DataW.TrodAll enc P O 0 (λb=>decide (b<W.heap.size)) true ts vs J D
 | [],[],[],_,_,_,h=>h
 | t :: ts,v :: vs,d :: J,D,hr,hlt,h=>by
  obtain⟨p,q,h1,h2,rfl⟩:=h;exact⟨p,q,Below.trod V (hr t (by simp)).1 (hr t (by simp)).2 h1 U (λx K=>hlt x (by simp[K])),cK V U (λt Z=>hr t (by simp[Z])) (λx K=>hlt x (by simp[K])) h2,rfl⟩
 | [],_ :: _,_,_,_,_,h=>h.elim
 | [],[],_ :: _,_,_,_,h=>h.elim
 | _ :: _,[],_,_,_,_,h=>h.elim
 | _ :: _,_ :: _,[],_,_,_,h=>h.elim
theorem ZC {W:World} {sp:Nat->Bool} {held:Bool} {D:Nat}:∀ {ts:List TypeId} {vs:List Value} {J:List (DataW H)} {O:List MemPlace},DataW.TrodAll enc P W D sp held ts vs J O->J.length=ts.length
 | [],[],[],_,_=>rfl
 | _ :: _,_ :: _,_ :: _,_,h=>by obtain⟨_,_,_,K,_⟩:=h; simp[ZC K]
 | [],_ :: _,_,_,h=>h.elim
 | [],[],_ :: _,_,h=>h.elim
 | _ :: _,[],_,_,h=>h.elim
 | _ :: _,_ :: _,[],_,h=>h.elim
def AmF (P:Program) (ts:List TypeId):Bool:=ts.all λt=>P.readableRec t && decide (t<P.types.size)
theorem AiY {f:Func} {s:ChangeSpec} {W W':World} {args:Array Value} {J gs:List (DataW H)} {D:List MemPlace} {tb:TypeId} (hl:laidOutB P=true) (hr:AmF P f.params.toList=true) (hT:f.resultTypes = #[tb]) (hB:P.underlying tb=some .bool)
   (O:s.vars=[]) (hs:∀ (J:List (DataW H)),J.length=f.params.toList.length->s.fn H J = { results:=[.lit (.bool true)],args:=J,vars:=[] }) (hW:DataW.Whole enc P f.params.toList s.vars false W args.toList J gs D) (hb:Below W.heap.size W W') :
   s.post enc P f false true false false W args (.bool true) W':=by
 have hW0:=hW;have V:=hW.lt;obtain⟨p,q,hA,hV,rfl,_,_⟩:=hW;rw[O] at hV
 have Z:gs=[]∧q=[]:=by
   cases gs with
   | nil=>exact⟨rfl,hV⟩
   | cons=>exact hV.elim
 obtain⟨rfl,rfl⟩:=Z;have U:J.length=f.params.toList.length:=ZC hA;have K:=hs J U;refine⟨J,[],p++[],[],p,[],hW0,?_,?_,?_,hb.frame _,λh=>by cases h⟩
 . rw[List.append_nil,K,hT];exact⟨[],[],shut_bool hB true,rfl,rfl⟩
 . rw[List.append_nil,K];refine cK hl hb (λt ht=>?_) (λx hx=>V x (by simp[hx])) hA;have:=List.all_eq_true.1 hr t ht;simpa using this
 . rw[List.append_nil,K,O];exact rfl
theorem AfV {g:FuncId} {vs:List Value} {φ:IH->Value->Prop} {W:World} (h:AY P g vs (hp W) φ) {R:Ending->World->Prop} (K:∀ I v D,φ I v->Below W.heap.size W D->R (.returned v) D):Calls P g vs.toArray W R:=by refine(h W (λ_=>none) (IH.le.refl _) trivial (λ_ _ x=>nomatch x) (λ_=>.inr rfl)).mono λe w' U=>?_;obtain⟨v,J,l',rfl,_,⟨_,hψ⟩,hs⟩:=U;exact K J v w' hψ ⟨hs.base.os,hs.base.tape,hs.base.output,hs.base.size,λb O=>hs.base.block b O (by simp)⟩
end Go.Fw
