/- The engine, part T: from what a row says (arguments that read as data) to the walks: every law that answers true. -/
import Derived.Test.YtbohadngdkjljaaGreatFwP
import Derived.OpenShut
import Derived.ChangeAt
import Derived.ChangeOld
namespace Go.Fw
open Go Go.RowKit
/-! ### How arguments read -/
def Rd {α:Type} (P:Program) (t:TypeId) (El:EL α) (ok:α→Prop):Prop:=
  P.cellsOf t=El.sz∧∀ {H:Type} (enc:TypeId×Value→H) (w:World) (sp:Nat→Bool) (held:Bool) (fuel:Nat) (cs:List Value) (d:DataW H×List MemPlace),DataW.trod enc P w 0 sp held fuel t cs=some d→∃ y,El.rep (hp w) cs y∧ok y
variable {P:Program} {t e:TypeId}
theorem Rd.int {k:IntKind} (hs:P.cellsOf t=1) (ht:P.underlying t=some (.int k)) (h:∀ x:Int,([Value.int k x]:List Value).length=1∧LU [Value.int k x]=true):Rd P t (JI 1 (fun x=>[.int k x]) h) (inR k):=
  ⟨hs,fun enc w sp held fuel cs d h=>by obtain ⟨n,h1,_,h3⟩:=DataW.trod_int ht h; exact ⟨n,h1,h3⟩⟩
theorem vL {H:Type} {enc:TypeId×Value→H} {w:World} {base:Nat} {sp:Nat→Bool} {held:Bool} {fuel:Nat} {cs:List Value} {d:DataW H×List MemPlace} (ht:P.underlying t=some .bool) (h:DataW.trod enc P w base sp held fuel t cs=some d):∃ b,cs=[.bool b]:=by
  cases fuel with
  | zero=>simp [DataW.trod] at h
  | succ n=>
    unfold DataW.trod at h
    rw [ht] at h
    split at h <;> simp_all
theorem Rd.bool (hs:P.cellsOf t=1) (ht:P.underlying t=some .bool) (h:∀ x:Bool,([Value.bool x]:List Value).length=1∧LU [Value.bool x]=true):Rd P t (JI 1 (fun x=>[.bool x]) h) (fun _=>True):=
  ⟨hs,fun enc w sp held fuel cs d h=>by obtain ⟨n,h1⟩:=vL ht h; exact ⟨n,h1,trivial⟩⟩
theorem fB {α:Type} {R:Nat→α→Prop}:∀ n,(∀ i,i<n→∃ y,R i y)→∃ ys:List α,ys.length=n∧∀ i y,ys[i]? = some y→R i y
  | 0,_=>⟨[],rfl,fun i y h=>by simp at h⟩
  | n+1,h=>by
    obtain ⟨ys,h1,h2⟩:=fB n fun i hi=>h i (by omega)
    obtain ⟨y,hy⟩:=h n (by omega)
    refine ⟨ys++[y],by simp [h1],fun i z hz=>?_⟩
    rcases Nat.lt_or_ge i ys.length with hi | hi
    · rw [List.getElem?_append_left hi] at hz; exact h2 i z hz
    · rw [List.getElem?_append_right hi] at hz
      cases hk:i - ys.length with
      | zero=>rw [hk] at hz; cases hz; rwa [show i=n by omega]
      | succ k=>rw [hk] at hz; simp at hz
theorem lY {w:World} {base n:Nat} {a:Addr} {cs:List Value} (h:w.cells? base a n=some cs):cs.length=n∧∀ j v,cs[j]? = some v→w.cell? (a.add j)=some v:=by
  unfold World.cells? at h
  split at h
  · have hl:=mapM_some_length h
    refine ⟨by simpa using hl,fun j v hj=>?_⟩
    have hlt:j<n:=by have:=(List.getElem?_eq_some_iff.1 hj).1; simpa [hl] using this
    have:=mapM_some_get h j j (by simp [hlt])
    rw [this,hj]
  · cases h
theorem AbV {w:World} {b off:Nat} {cs:List Value} (h:∀ j v,cs[j]? = some v→w.cell? ⟨b,off+j,none⟩=some v) (hne:cs≠[]):ImC (hp w) b off cs:=by
  cases cs with
  | nil=>exact absurd rfl hne
  | cons u r=>
    have h0:=h 0 u rfl
    simp only [World.cell?] at h0
    split at h0
    · rename_i c t fz hb
      refine ⟨c,t,fz,hb,fun j v hj=>?_⟩
      have:=h j v hj
      simp only [World.cell?,hb] at this
      simpa using this
    · cases h0
theorem Rd.slice {α:Type} {El:EL α} {ok:α→Prop} (hs:P.cellsOf t=1) (ht:P.underlying t=some (.slice e)) (h0:0<El.sz) (R:Rd P e El ok):Rd P t (MR El) (fun xs=>(∀ x∈xs,ok x)∧xs.length≤maxLen):=by
  refine ⟨hs,fun enc w sp held fuel cs d h=>?_⟩
  rcases DataW.trod_slice ht h with ⟨rfl,_⟩ | ⟨a,len,cap,elems,rest,n,_,rfl,_,hb,hlc,hcm,hel,hget,_⟩
  · exact ⟨[],⟨none,0,rfl,.nil _ _ _⟩,by simp,by simp⟩
  · have hel1:∀ i,i<len→∃ y:α,(∃ cs,w.cells? 0 (a.add (i*El.sz)) El.sz=some cs∧El.rep (hp w) cs y)∧ok y:=by
      intro i hi
      have hg:=hget i hi
      rw [R.1] at hg
      have he:elems[i]? = some elems[i]:=List.getElem?_eq_getElem (by omega)
      rw [he] at hg
      cases hc:w.cells? 0 (a.add (i*El.sz)) El.sz with
      | none=>rw [hc] at hg; cases hg
      | some cs=>
        rw [hc] at hg
        obtain ⟨y,h1,h2⟩:=R.2 enc w sp held n cs _ hg
        exact ⟨y,⟨cs,rfl,h1⟩,h2⟩
    obtain ⟨ys,hy1,hy2⟩:=fB len hel1
    refine ⟨ys,⟨some a,cap,by rw [hy1],by omega,fun i x hx=>?_⟩,fun x hx=>?_,by omega⟩
    · obtain ⟨⟨cs,hcs,hrep⟩,_⟩:=hy2 i x hx
      obtain ⟨hlen,hcell⟩:=lY hcs
      have hne:cs≠[]:=fun e=>by subst e; simp at hlen; omega
      have hilt:i<len:=by have:=(List.getElem?_eq_some_iff.1 hx).1; omega
      -- the head of the slice is a place of its own
      have hsp:a.spot=none:=by
        obtain ⟨y0,⟨cs0,hc0,_⟩,_⟩:=hel1 0 (by omega)
        obtain ⟨hl0,hcell0⟩:=lY hc0
        cases cs0 with
        | nil=>simp at hl0; omega
        | cons u r=>
          have:=hcell0 0 u rfl
          simp only [Nat.zero_mul,Addr.add,if_true,World.cell?] at this
          split at this
          · cases hsp:a.spot with
            | none=>rfl
            | some q=>rw [hsp] at this; cases this
          · cases this
      refine ⟨a.block,a.off,cs,by cases a; simp_all,AbV (fun j v hj=>?_) hne,hrep⟩
      have:=hcell j v hj
      have e1:(a.add (i*El.sz)).add j=⟨a.block,a.off+i*El.sz+j,none⟩:=by
        cases a
        simp only at hsp
        subst hsp
        unfold Addr.add
        split <;> split <;> simp_all
      rwa [e1] at this
    · obtain ⟨i,hi⟩:=List.getElem?_of_mem hx
      exact (hy2 i x hi).2
theorem Rd.mono {α:Type} {El:EL α} {ok ok':α→Prop} (h:Rd P t El ok) (hk:∀ x,ok x→ok' x):Rd P t El ok':=
  ⟨h.1,fun enc w sp held fuel cs d hd=>let ⟨y,h1,h2⟩:=h.2 enc w sp held fuel cs d hd; ⟨y,h1,hk y h2⟩⟩
theorem XA {H:Type} {enc:TypeId×Value→H} {w:World} {sp:Nat→Bool} {held:Bool} {fuel:Nat} {cs:List Value} {d:DataW H×List MemPlace} {fs:Array Field} (ht:P.underlying t=some (.struct fs)) (h:DataW.trod enc P w 0 sp held fuel t cs=some d) :
    cs.length=P.cellsOf t∧∃ n,∀ (i:Nat) (f:Field),fs[i]? = some f→∃ x,DataW.trod enc P w 0 sp held n f.type ((cs.drop f.offset).take (P.cellsOf f.type))=some x:=by
  obtain ⟨xs,n,_,_,hl,hx,hf⟩:=DataW.trod_struct ht h
  refine ⟨hl,n,fun i f hi=>?_⟩
  have hlt:i<xs.length:=by rw [hx]; exact (Array.getElem?_eq_some_iff.1 hi).1
  exact ⟨xs[i],by rw [hf i f hi]; exact List.getElem?_eq_getElem hlt⟩
theorem Rd.field {α:Type} {El:EL α} {ok:α→Prop} {T:TypeId} {H:Type} {enc:TypeId×Value→H} {w:World} {sp:Nat→Bool} {held:Bool} {n:Nat} {cs:List Value} {fs:Array Field} (R:Rd P T El ok)
    (hf:∀ (i:Nat) (f:Field),fs[i]? = some f→∃ x,DataW.trod enc P w 0 sp held n f.type ((cs.drop f.offset).take (P.cellsOf f.type))=some x) (i:Nat) {f:Field} (hi:fs[i]? = some f) (hT:f.type=T) {off:Nat} (ho:f.offset=off) :
    ∃ y,El.rep (hp w) ((cs.drop off).take El.sz) y∧ok y:=by
  subst hT ho
  obtain ⟨x,hx⟩:=hf i f hi
  rw [R.1] at hx
  exact R.2 enc w sp held n _ _ hx
def AhG (P:Program) (t:TypeId):Bool:=match P.underlying t with
  | some (.struct _) | some (.array _ _)=>true
  | _=>false
variable {H:Type} {enc:TypeId×Value→H} {W:World} {sp:Nat→Bool} {held:Bool} {v:Value} {d:DataW H} {p:List MemPlace}
theorem Rd.argA {α:Type} {El:EL α} {ok:α→Prop} (R:Rd P t El ok) (hv:Value.okWide P W .any 0 t v) (h:DataW.Trod enc P W 0 sp held t v d p) (hag:AhG P t=true):∃ cs y,v=.agg cs∧El.rep (hp W) cs.toList y∧ok y:=by
  obtain ⟨fuel,h⟩:=h
  unfold Value.okWide at hv
  unfold AhG at hag
  have:∃ cs,v=.agg cs:=by
    cases hu:P.underlying t with
    | none=>simp [hu] at hag
    | some u=>cases u <;> simp [hu] at hv hag <;> exact ⟨_,hv.choose_spec.1⟩
  obtain ⟨cs,rfl⟩:=this
  obtain ⟨y,h1,h2⟩:=R.2 enc W sp held fuel _ _ h
  exact ⟨cs,y,rfl,h1,h2⟩
theorem Z5 (hl:laidOutB P=true) {W W':World} (hb:Below W.heap.size W W'):∀ {ts:List TypeId} {vs:List Value} {ds:List (DataW H)} {ps:List MemPlace},(∀ t∈ts,P.readableRec t=true∧t<P.types.size) →
    (∀ x∈ps,x.block<W.heap.size)→DataW.TrodAll enc P W 0 (fun _=>true) true ts vs ds ps→DataW.TrodAll enc P W' 0 (fun b=>decide (b<W.heap.size)) true ts vs ds ps
  | [],[],[],_,_,_,h=>h
  | t :: ts,v :: vs,d :: ds,ps,hr,hlt,h=>by
    obtain ⟨p,q,h1,h2,rfl⟩:=h
    exact ⟨p,q,Below.trod hl (hr t (by simp)).1 (hr t (by simp)).2 h1 hb (fun x hx=>hlt x (by simp [hx])),Z5 hl hb (fun t ht=>hr t (by simp [ht])) (fun x hx=>hlt x (by simp [hx])) h2,rfl⟩
  | [],_ :: _,_,_,_,_,h=>h.elim
  | [],[],_ :: _,_,_,_,h=>h.elim
  | _ :: _,[],_,_,_,_,h=>h.elim
  | _ :: _,_ :: _,[],_,_,_,h=>h.elim
theorem XB {W:World} {sp:Nat→Bool} {held:Bool} {base:Nat}:∀ {ts:List TypeId} {vs:List Value} {ds:List (DataW H)} {ps:List MemPlace},DataW.TrodAll enc P W base sp held ts vs ds ps→ds.length=ts.length
  | [],[],[],_,_=>rfl
  | _ :: _,_ :: _,_ :: _,_,h=>by obtain ⟨_,_,_,h2,_⟩:=h; simp [XB h2]
  | [],_ :: _,_,_,h=>h.elim
  | [],[],_ :: _,_,h=>h.elim
  | _ :: _,[],_,_,h=>h.elim
  | _ :: _,_ :: _,[],_,h=>h.elim
def Ag9 (P:Program) (ts:List TypeId):Bool:=ts.all fun t=>P.readableRec t && decide (t<P.types.size)
theorem AbW {f:Func} {s:ChangeSpec} {W W':World} {args:Array Value} {ds gs:List (DataW H)} {before:List MemPlace} {tb:TypeId} (hl:laidOutB P=true) (hr:Ag9 P f.params.toList=true) (hT:f.resultTypes = #[tb]) (hB:P.underlying tb=some .bool)
    (hsv:s.vars=[]) (hs:∀ (ds:List (DataW H)),ds.length=f.params.toList.length→s.fn H ds = { results:=[.lit (.bool true)],args:=ds,vars:=[] }) (hW:DataW.Whole enc P f.params.toList s.vars false W args.toList ds gs before) (hb:Below W.heap.size W W') :
    s.post enc P f false true false false W args (.bool true) W':=by
  have hW0:=hW
  have hlt:=hW.lt
  obtain ⟨p,q,hA,hV,rfl,_,_⟩:=hW
  rw [hsv] at hV
  have hgs:gs=[]∧q=[]:=by
    cases gs with
    | nil=>exact ⟨rfl,hV⟩
    | cons=>exact hV.elim
  obtain ⟨rfl,rfl⟩:=hgs
  have hlen:ds.length=f.params.toList.length:=XB hA
  have hfn:=hs ds hlen
  refine ⟨ds,[],p++[],[],p,[],hW0,?_,?_,?_,hb.frame _,fun h=>by cases h⟩
  · rw [List.append_nil,hfn,hT]
    exact ⟨[],[],shut_bool hB true,rfl,rfl⟩
  · rw [List.append_nil,hfn]
    refine Z5 hl hb (fun t ht=>?_) (fun x hx=>hlt x (by simp [hx])) hA
    have:=List.all_eq_true.1 hr t ht
    simpa using this
  · rw [List.append_nil,hfn,hsv]
    exact rfl
theorem Aa3 {g:FuncId} {vs:List Value} {φ:IH→Value→Prop} {W:World} (h:BW P g vs (hp W) φ) {R:Ending→World→Prop} (hR:∀ I v W',φ I v→Below W.heap.size W W'→R (.returned v) W'):Calls P g vs.toArray W R:=by
  refine (h W (fun _=>none) (IH.le.refl _) trivial (fun _ _ x=>nomatch x) (fun _=>.inr rfl)).mono fun e w' ha=>?_
  obtain ⟨v,I',l',rfl,_,⟨_,hψ⟩,hs⟩:=ha
  exact hR I' v w' hψ ⟨hs.base.os,hs.base.tape,hs.base.output,hs.base.size,fun b hb=>hs.base.block b hb (by simp)⟩
end Go.Fw
