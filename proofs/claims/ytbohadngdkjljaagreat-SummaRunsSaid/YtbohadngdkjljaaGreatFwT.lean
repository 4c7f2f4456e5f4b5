/- The engine. -/
import Derived.Test.YtbohadngdkjljaaGreatFwP
import Derived.OpenShut
import Derived.ChangeAt
import Derived.ChangeOld
namespace Go.Fw
open Go Go.RowKit
/-! ### How arguments read -/
variable {α:Type} {ok:α→Prop}
def Rd (P:Program) (t:TypeId) (El:ET α) (ok:α→Prop):Prop:=
 P.cellsOf t=El.sz∧∀ {H:Type} (enc:TypeId×Value→H) (w:World) (sp:Nat→Bool) (held:Bool) (h:Nat) (cs:List Value) (d:DataW H×List MemPlace),DataW.trod enc P w 0 sp held h t cs=some d→∃ y,El.rep (hp w) cs y∧ok y
variable {P:Program} {t e:TypeId}
theorem Rd.int {k:IntKind} (O:P.cellsOf t=1) (G:P.underlying t=some (.int k)) (h:∀ x:Int,([Value.int k x]:List Value).length=1∧LM [Value.int k x]=true):Rd P t (IF 1 (fun x=>[.int k x]) h) (SQ k):=
 ⟨O,fun enc w sp held D cs d h=>by obtain ⟨n,J,_,U⟩:=DataW.trod_int G h; exact ⟨n,J,U⟩⟩
theorem dI {R:Nat→α→Prop}:∀ n,(∀ i,i<n→∃ y,R i y)→∃ ys:List α,ys.length=n∧∀ i y,ys[i]? = some y→R i y
 | 0,_=>⟨[],rfl,fun i y h=>by simp at h⟩
 | n+1,h=>by
  obtain ⟨ys,J,G⟩:=dI n fun i hi=>h i (by omega)
  obtain ⟨y,hy⟩:=h n (by omega)
  refine ⟨ys++[y],by simp [J],fun i z D=>?_⟩
  rcases Nat.lt_or_ge i ys.length with hi | hi
  · rw [List.getElem?_append_left hi] at D; exact G i z D
  · rw [List.getElem?_append_right hi] at D
    cases hk:i - ys.length with
    | zero=>rw [hk] at D; cases D; rwa [show i=n by omega]
    | succ k=>rw [hk] at D; simp at D
theorem jU {w:World} {D n:Nat} {a:Addr} {cs:List Value} (h:w.cells? D a n=some cs):cs.length=n∧∀ j v,cs[j]? = some v→w.cell? (a.add j)=some v:=by
 unfold World.cells? at h
 split at h
 · have O:=mapM_some_length h
   refine ⟨by simpa using O,fun j v J=>?_⟩
   have G:j<n:=by have:=(List.getElem?_eq_some_iff.1 J).1; simpa [O] using this
   have:=mapM_some_get h j j (by simp [G])
   rw [this,J]
 · cases h
theorem zC {w:World} {b off:Nat} {cs:List Value} (h:∀ j v,cs[j]? = some v→w.cell? ⟨b,off+j,none⟩=some v) (G:cs≠[]):ImC (hp w) b off cs:=by
 cases cs with
 | nil=>exact absurd rfl G
 | cons u r=>
  have D:=h 0 u rfl
  simp only [World.cell?] at D
  split at D
  · rename_i c t U J
    refine ⟨c,t,U,J,fun j v O=>?_⟩
    have:=h j v O
    simp only [World.cell?,J] at this
    simpa using this
  · cases D
theorem Rd.slice {El:ET α} (hs:P.cellsOf t=1) (ht:P.underlying t=some (.slice e)) (h0:0<El.sz) (R:Rd P e El ok):Rd P t (JI El) (fun xs=>(∀ x∈xs,ok x)∧xs.length≤maxLen):=by
 refine ⟨hs,fun enc w sp held fuel cs d h=>?_⟩
 rcases DataW.trod_slice ht h with ⟨rfl,_⟩ | ⟨a,V,cap,D,rest,n,_,rfl,_,hb,hlc,hcm,hel,Z,_⟩
 · exact ⟨[],⟨none,0,rfl,.nil _ _ _⟩,by simp,by simp⟩
 · have O:∀ i,i<V→∃ y:α,(∃ cs,w.cells? 0 (a.add (i*El.sz)) El.sz=some cs∧El.rep (hp w) cs y)∧ok y:=by
     intro i hi
     have Y:=Z i hi
     rw [R.1] at Y
     have he:D[i]? = some D[i]:=List.getElem?_eq_getElem (by omega)
     rw [he] at Y
     cases hc:w.cells? 0 (a.add (i*El.sz)) El.sz with
     | none=>rw [hc] at Y; cases Y
     | some cs=>
      rw [hc] at Y
      obtain ⟨y,h1,h2⟩:=R.2 enc w sp held n cs _ Y
      exact ⟨y,⟨cs,rfl,h1⟩,h2⟩
   obtain ⟨ys,hy1,hy2⟩:=dI V O
   refine ⟨ys,⟨some a,cap,by rw [hy1],by omega,fun i x hx=>?_⟩,fun x hx=>?_,by omega⟩
   · obtain ⟨⟨cs,hcs,hrep⟩,_⟩:=hy2 i x hx
     obtain ⟨hlen,U⟩:=jU hcs
     have hne:cs≠[]:=fun e=>by subst e; simp at hlen; omega
     have hilt:i<V:=by have:=(List.getElem?_eq_some_iff.1 hx).1; omega
     -- the head of the slice is a place of its own
     have G:a.spot=none:=by
      obtain ⟨y0,⟨cs0,hc0,_⟩,_⟩:=O 0 (by omega)
      obtain ⟨hl0,J⟩:=jU hc0
      cases cs0 with
      | nil=>simp at hl0; omega
      | cons u r=>
       have:=J 0 u rfl
       simp only [Nat.zero_mul,Addr.add,if_true,World.cell?] at this
       split at this
       · cases G:a.spot with
         | none=>rfl
         | some q=>rw [G] at this; cases this
       · cases this
     refine ⟨a.block,a.off,cs,by cases a; simp_all,zC (fun j v hj=>?_) hne,hrep⟩
     have:=U j v hj
     have e1:(a.add (i*El.sz)).add j=⟨a.block,a.off+i*El.sz+j,none⟩:=by
      cases a
      simp only at G
      subst G
      unfold Addr.add
      split <;> split <;> simp_all
     rwa [e1] at this
   · obtain ⟨i,hi⟩:=List.getElem?_of_mem hx
     exact (hy2 i x hi).2
theorem OR {H:Type} {enc:TypeId×Value→H} {w:World} {sp:Nat→Bool} {held:Bool} {D:Nat} {cs:List Value} {d:DataW H×List MemPlace} {J:Array Field} (O:P.underlying t=some (.struct J)) (h:DataW.trod enc P w 0 sp held D t cs=some d) :
  cs.length=P.cellsOf t∧∃ n,∀ (i:Nat) (f:Field),J[i]? = some f→∃ x,DataW.trod enc P w 0 sp held n f.type ((cs.drop f.offset).take (P.cellsOf f.type))=some x:=by
 obtain ⟨xs,n,_,_,U,Y,V⟩:=DataW.trod_struct O h
 refine ⟨U,n,fun i f hi=>?_⟩
 have G:i<xs.length:=by rw [Y]; exact (Array.getElem?_eq_some_iff.1 hi).1
 exact ⟨xs[i],by rw [V i f hi]; exact List.getElem?_eq_getElem G⟩
theorem Rd.field {El:ET α} {T:TypeId} {H:Type} {enc:TypeId×Value→H} {w:World} {sp:Nat→Bool} {held:Bool} {n:Nat} {cs:List Value} {h:Array Field} (R:Rd P T El ok)
  (O:∀ (i:Nat) (f:Field),h[i]? = some f→∃ x,DataW.trod enc P w 0 sp held n f.type ((cs.drop f.offset).take (P.cellsOf f.type))=some x) (i:Nat) {f:Field} (hi:h[i]? = some f) (G:f.type=T) {off:Nat} (J:f.offset=off) :
  ∃ y,El.rep (hp w) ((cs.drop off).take El.sz) y∧ok y:=by
 subst G J
 obtain ⟨x,D⟩:=O i f hi
 rw [R.1] at D
 exact R.2 enc w sp held n _ _ D
theorem Rd.elemA {El:ET α} {n:Nat} (U:P.underlying t=some (.array n e)) (R:Rd P e El ok) {H:Type} {enc:TypeId×Value→H} {w:World} {sp:Nat→Bool} {held:Bool} {D:Nat} {cs:List Value} {d:DataW H×List MemPlace}
  (h:DataW.trod enc P w 0 sp held D t cs=some d):cs.length=P.cellsOf t∧∀ i,i<n→∃ y,El.rep (hp w) ((cs.drop (i*El.sz)).take El.sz) y∧ok y:=by
 obtain ⟨xs,m,_,_,J,hx,O⟩:=DataW.trod_array U h
 refine ⟨J,fun i hi=>?_⟩
 have G:i<xs.length:=by omega
 have:=O i hi
 rw [R.1,List.getElem?_eq_getElem G] at this
 exact R.2 enc w sp held m _ _ this
def AeG (P:Program) (t:TypeId):Bool:=match P.underlying t with
 | some (.struct _) | some (.array _ _)=>true
 | _=>false
variable {H:Type} {enc:TypeId×Value→H} {W:World} {sp:Nat→Bool} {held:Bool} {v:Value} {d:DataW H} {p:List MemPlace}
theorem Rd.argA {El:ET α} (R:Rd P t El ok) (J:Value.okWide P W .any 0 t v) (h:DataW.Trod enc P W 0 sp held t v d p) (D:AeG P t=true):∃ cs y,v=.agg cs∧El.rep (hp W) cs.toList y∧ok y:=by
 obtain ⟨G,h⟩:=h
 unfold Value.okWide at J
 unfold AeG at D
 have:∃ cs,v=.agg cs:=by
  cases hu:P.underlying t with
  | none=>simp [hu] at D
  | some u=>cases u <;> simp [hu] at J D <;> exact ⟨_,J.choose_spec.1⟩
 obtain ⟨cs,rfl⟩:=this
 obtain ⟨y,U,O⟩:=R.2 enc W sp held G _ _ h
 exact ⟨cs,y,rfl,U,O⟩
theorem XZ (V:laidOutB P=true) {W Y:World} (U:Below W.heap.size W Y):∀ {D:List TypeId} {vs:List Value} {J:List (DataW H)} {G:List MemPlace},(∀ t∈D,P.readableRec t=true∧t<P.types.size) →
  (∀ x∈G,x.block<W.heap.size)→DataW.TrodAll enc P W 0 (fun _=>true) true D vs J G→DataW.TrodAll enc P Y 0 (fun b=>decide (b<W.heap.size)) true D vs J G
 | [],[],[],_,_,_,h=>h
 | t :: D,v :: vs,d :: J,G,hr,hlt,h=>by
  obtain ⟨p,q,h1,h2,rfl⟩:=h
  exact ⟨p,q,Below.trod V (hr t (by simp)).1 (hr t (by simp)).2 h1 U (fun x O=>hlt x (by simp [O])),XZ V U (fun t Z=>hr t (by simp [Z])) (fun x O=>hlt x (by simp [O])) h2,rfl⟩
 | [],_ :: _,_,_,_,_,h=>h.elim
 | [],[],_ :: _,_,_,_,h=>h.elim
 | _ :: _,[],_,_,_,_,h=>h.elim
 | _ :: _,_ :: _,[],_,_,_,h=>h.elim
theorem VW {W:World} {sp:Nat→Bool} {held:Bool} {D:Nat}:∀ {G:List TypeId} {vs:List Value} {J:List (DataW H)} {O:List MemPlace},DataW.TrodAll enc P W D sp held G vs J O→J.length=G.length
 | [],[],[],_,_=>rfl
 | _ :: _,_ :: _,_ :: _,_,h=>by obtain ⟨_,_,_,U,_⟩:=h; simp [VW U]
 | [],_ :: _,_,_,h=>h.elim
 | [],[],_ :: _,_,h=>h.elim
 | _ :: _,[],_,_,h=>h.elim
 | _ :: _,_ :: _,[],_,h=>h.elim
def Ad1 (P:Program) (h:List TypeId):Bool:=h.all fun t=>P.readableRec t && decide (t<P.types.size)
theorem zD {f:Func} {s:ChangeSpec} {W W':World} {args:Array Value} {G gs:List (DataW H)} {D:List MemPlace} {tb:TypeId} (hl:laidOutB P=true) (hr:Ad1 P f.params.toList=true) (hT:f.resultTypes = #[tb]) (hB:P.underlying tb=some .bool)
   (O:s.vars=[]) (hs:∀ (G:List (DataW H)),G.length=f.params.toList.length→s.fn H G = { results:=[.lit (.bool true)],args:=G,vars:=[] }) (Z:DataW.Whole enc P f.params.toList s.vars false W args.toList G gs D) (hb:Below W.heap.size W W') :
   s.post enc P f false true false false W args (.bool true) W':=by
 have hW0:=Z
 have V:=Z.lt
 obtain ⟨p,q,hA,hV,rfl,_,_⟩:=Z
 rw [O] at hV
 have Y:gs=[]∧q=[]:=by
   cases gs with
   | nil=>exact ⟨rfl,hV⟩
   | cons=>exact hV.elim
 obtain ⟨rfl,rfl⟩:=Y
 have U:G.length=f.params.toList.length:=VW hA
 have J:=hs G U
 refine ⟨G,[],p++[],[],p,[],hW0,?_,?_,?_,hb.frame _,fun h=>by cases h⟩
 · rw [List.append_nil,J,hT]
   exact ⟨[],[],shut_bool hB true,rfl,rfl⟩
 · rw [List.append_nil,J]
   refine XZ hl hb (fun t ht=>?_) (fun x hx=>V x (by simp [hx])) hA
   have:=List.all_eq_true.1 hr t ht
   simpa using this
 · rw [List.append_nil,J,O]
   exact rfl
theorem vO {g:FuncId} {vs:List Value} {φ:IH→Value→Prop} {W:World} (h:BH P g vs (hp W) φ) {R:Ending→World→Prop} (G:∀ I v D,φ I v→Below W.heap.size W D→R (.returned v) D):Calls P g vs.toArray W R:=by
 refine (h W (fun _=>none) (IH.le.refl _) trivial (fun _ _ x=>nomatch x) (fun _=>.inr rfl)).mono fun e w' U=>?_
 obtain ⟨v,O,l',rfl,_,⟨_,hψ⟩,hs⟩:=U
 exact G O v w' hψ ⟨hs.base.os,hs.base.tape,hs.base.output,hs.base.size,fun b J=>hs.base.block b J (by simp)⟩
end Go.Fw
