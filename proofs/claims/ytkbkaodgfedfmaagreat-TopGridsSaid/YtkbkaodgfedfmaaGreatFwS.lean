/- The engine. -/
import Derived.Test.YtkbkaodgfedfmaaGreatFwP
import Derived.Shelf.SlSortCmp.WholeK
import Derived.Shelf.SlSortCmp.NoneTotal
namespace Go.Fw
open Go Go.RowKit Go.Shelf Go.Lib Go.Sort Go.Proofs
variable {P:Program} {α:Type}
def xU (h:α->α->(Int->Prop)->Prop) (xs:List α) (K:List α->Prop):Prop:=
 ∃ d:α->α->Int,(∀ x y (Q:Int->Prop),Q (d x y)->h x y Q)∧SWO (ltOf d)∧xs.length<4611686018427387904∧∀ ys:List α,ys.Perm xs->ys.Pairwise (λx y=>0<=d y x)->K ys
theorem AeQ {W w':World} (V:AjF W (λ_=>False) w'):∃ q O,w'=grow (W.drewN q) O:=by
 refine⟨w'.drawn - W.drawn,w'.heap.extract W.heap.size w'.heap.size,?_⟩;obtain⟨J,D,h,h4,h5,K⟩:=V
 have U:w'.heap=W.heap++w'.heap.extract W.heap.size w'.heap.size:=by
  apply Array.ext_getElem?;intro i;rcases Nat.lt_or_ge i W.heap.size with hi | hi
  . rw[K i hi (λx=>x),Array.getElem?_append_left hi]
  . rw[Array.getElem?_append_right hi,Array.getElem?_extract];split
    . congr 1; omega
    . rw[Array.getElem?_eq_none (by omega)]
 have d:W.drawn+(w'.drawn - W.drawn)=w'.drawn:=by omega
 cases w';simp only at U J D h d;simp only[grow,World.drewN,d,<-J,<-D,<-h];congr 1
theorem AeR {W:World} {q:Nat} {h:Array Obj}:AjF W (λ_=>False) (grow (W.drewN q) h):=
 ⟨rfl,rfl,rfl,by simp[grow,World.drewN],by simp[grow,World.drewN],λb d _=>by simp[grow,World.drewN,Array.getElem?_append_left d]⟩
theorem Fun.sort [Inhabited α] {ρ:Ren} (L:SlLaysF0.n6 P ρ) {k:Nat} (aE:∀ w,(isAgg (ρ.t 24)).run P w=.ok true w) (zE:∀ w,(Go.sizeOf (ρ.t 24)).run P w=.ok k w) {enc:α->List Value} {hk:∀ x,(enc x).length=k∧N1 (enc x)=true}
    {ord:α->α->(Int->Prop)->Prop} {g:Nat} (hc:∀ (x y:α) (J:IH) (Q:Int->Prop),ord x y Q->AY P g [.agg (enc x).toArray,.agg (enc y).toArray] J λ_ v=>∃ r,v=.int .i64 r∧Q r)
    (eg:∀ args w,(callFunc g args).run P w=.ok (.enter g args) w) {I:IH} {T:TypeId} {a:Option Addr} {cap:Nat} {xs:List α} {K:List α->Prop} (hd:xU ord xs K) :
    Fun P (ρ.f 6) #[.slice a xs.length cap,.func (.func g) #[] #[]] I [OwnSl (KK k enc hk) T a cap xs] λ_ v l=>∃ ys,v=.tuple #[]∧ys.length=xs.length∧l=[OwnSl (KK k enc hk) T a cap ys]∧K ys:=by
  obtain⟨cf,hcf,hO,hsz,hK⟩:=hd;intro w h hI hs hh hdj;have s0:=Fun.start hI hs hh hdj;obtain⟨g1,g2,hdj',hl1,hl2,ha,hs2⟩:=hs;rcases ha with⟨rfl,rfl,rfl⟩ | ⟨b,c,rfl,hb,hcap,hcs,hrep⟩
  . refine(AnyF.slices_SortFunc_none L none 0 (.func (.func g) #[] #[]) w).mono λe w' he=>?_;obtain⟨rfl,rfl⟩:=he;exact⟨_,I,_,rfl,IH.le.refl _,⟨[],rfl,rfl,rfl,hK [] (.refl _) .nil⟩,s0⟩
  . have hpt:Sym w (λb=>h b≠none) I I [pto b (.cells c T (0,0))] w:=by obtain⟨hB,hi,hn,q,_,hq,hd2,hm⟩:=s0;exact⟨hB,hi,hn,h,⟨g1,g2,hdj',hl1,hl2,hb,hs2⟩,hh,hdj,λb hb=>.inl hb⟩
    have hw:=hpt.pto;have hblt:b<w.heap.size:=(Array.getElem?_eq_some_iff.1 hw).1;have hcell:∀ j,w.cell? ⟨b,j,none⟩=c[j]?:=λj=>by rw[LU hw]
    have hcs':c.size=cap*k:=hcs
    have hH:HoldsK enc k w b 0 xs.toArray:=by
      intro j hj;rw[size_flatK] at hj;simp only[List.size_toArray] at hj
      have hk0 : 0 < k := by
        rcases Nat.eq_zero_or_pos k with e | e
        . subst e; simp at hj
        . exact e
      have hjd:j / k<xs.length:=Nat.div_lt_of_lt_mul (by rw[Nat.mul_comm]; exact hj);have hjm:j % k<k:=Nat.mod_lt _ hk0;have hx:xs[j / k]? = some xs[j / k]:=List.getElem?_eq_getElem hjd;obtain⟨cs,e1,e2⟩:=hrep _ _ hx;have e1':cs=enc xs[j / k]:=e1;subst e1';have hlen:j % k<(enc xs[j / k]).length:=by rw[(hk _).1]; exact hjm
      have h2:=e2 (j % k) _ (List.getElem?_eq_getElem hlen);have hdm:j / k*k+j % k=j:=by rw[Nat.mul_comm]; exact Nat.div_add_mod j k
      have h2':c[j]? = some (enc xs[j / k])[j % k]:=by
        have h3:c[j / k*k+j % k]? = some (enc xs[j / k])[j % k]:=h2
        rwa [hdm] at h3
      refine⟨?_,by simp[World.frozen?,hw]⟩;rw[Nat.zero_add,hcell,h2',get_flatK _ _ _ _ (by simpa using hj)];simp[hjd,hlen]
    have hcmp:CmpLays P g #[] enc k cf b 0 xs.toArray.size w:=by intro m os dk hdk x y;have:=hc x y (λ_=>none) (λr=>r=cf x y) (hcf x y _ rfl) (sortWorldK enc k w b 0 m dk os) (λ_=>none) (λ_ _ e=>nomatch e) trivial (λ_ _ e=>nomatch e) (λ_=>.inl rfl);refine Calls.mono (by simpa using this) λe w' he=>?_;obtain⟨v,I',l',rfl,_,⟨_,r,rfl,rfl⟩,hs'⟩:=he;exact⟨rfl,AeQ ⟨hs'.base.os,hs'.base.tape,hs'.base.output,hs'.base.drawn,hs'.base.size,λb h1 h2=>hs'.base.block b h1 (by simp)⟩⟩
    refine(AnyQ.slices_SortFunc L k aE zE enc (λx=>(hk x).1) (λx v hv=>VI (hk x).2 v hv) cf hO g #[] b 0 cap xs.toArray w eg hcmp hH hblt (by simpa using hsz)).mono λe w' he=>?_;obtain⟨rfl,d',n,os,hp,hso,rfl⟩:=he;obtain⟨hps,_,hpp⟩:=hp;have hps':d'.size=xs.length:=by simpa using hps
    have hperm:d'.toList.Perm xs:=by
      have e1:d'.extract 0 xs.toArray.size=d':=by rw[Array.extract_eq_self_of_le]; simp[hps']
      have e2:xs.toArray.extract 0 xs.toArray.size=xs.toArray:=by rw[Array.extract_eq_self_of_le]; simp
      rw[e1,e2] at hpp; simpa using hpp
    have hsorted:d'.toList.Pairwise (λx y=>0<=cf y x):=by rw[List.pairwise_iff_getElem];intro i j hi hj hij;have:=hso i j (Nat.zero_le _) hij (by simp at hj; simp; omega);simp only[Array.length_toList] at hi hj;unfold ltOf at this;simp only[hi,hj,getElem!_pos,decide_eq_false_iff_not] at this;simp only[Array.getElem_toList];omega
    refine⟨_,I,_,rfl,IH.le.refl _,⟨d'.toList,rfl,by simpa using hps',rfl,hK _ hperm hsorted⟩,?_⟩
    -- memory behind the sort
    have hsz2:(flatK enc k d').size=xs.length*k:=by rw[size_flatK,hps']
    have hmulk:xs.length*k<=cap*k:=Nat.mul_le_mul_right _ hcap
    obtain⟨c',hc1,hc2,hc3⟩:∃ c':Array Value,(putRowK enc k w b 0 d').heap[b]? = some (.cells c' T (0,0))∧c'.size=c.size∧∀ j,j<(flatK enc k d').size->c'[j]? = some (flatK enc k d')[j]!:=by
      refine⟨putCells id 0 (flatK enc k d') c,?_,by simp[putCells],λj hj=>?_⟩
      . simp[putRowK,putRow,mapBlock,Array.getElem?_modify,hw,onCells]
      . have hjc:j<c.size:=by rw[hcs']; omega
        simp[putCells,hjc];intro h;rw[size_flatK] at hj;omega
    have hup:=hpt.upd (o':=.cells c' T (0,0)) (w':=putRowK enc k w b 0 d') rfl rfl rfl rfl (by simp[putRowK,putRow,mapBlock])
      (λq hq=>by simp[putRowK,putRow,mapBlock,Array.getElem?_modify,Ne.symm hq]) hc1
    have hgr:=hup.grown (w':=grow ((putRowK enc k w b 0 d').drewN n) os) AeR;refine Sym.weaken (A:=pto b (.cells c' T (0,0))) hgr λq hq=>.inr ⟨b,c',rfl,hq,by simp[hps']; exact hcap,by rw[hc2]; exact hcs,λi x hx=>⟨enc x,rfl,λj v hj=>?_⟩⟩;have hil:i<d'.size:=by have:=(List.getElem?_eq_some_iff.1 hx).1; simpa using this
    have hxi:d'[i]! = x:=by rw[getElem!_pos d' i hil]; have:=List.getElem?_eq_some_iff.1 hx; obtain⟨h1,h2⟩:=this; simpa using h2
    have hjl:j<k:=by have:=(List.getElem?_eq_some_iff.1 hj).1; rwa [(hk x).1] at this
    have hlt:i*k+j<(flatK enc k d').size:=by rw[size_flatK];have:(i+1)*k<=d'.size*k:=Nat.mul_le_mul_right _ hil;rw[Nat.add_mul,Nat.one_mul] at this; omega
    show c'[i*k+j]? = some v;rw[hc3 _ hlt,get_flatK _ _ _ _ (by rwa [size_flatK] at hlt)];have e1:(i*k+j) / k=i:=by rw[Nat.mul_comm,Nat.mul_add_div (by omega),Nat.div_eq_of_lt hjl]; rfl
    have e2:(i*k+j) % k=j:=by rw[Nat.mul_comm,Nat.mul_add_mod,Nat.mod_eq_of_lt hjl]
    rw[e1,e2,hxi];have hj':=List.getElem?_eq_some_iff.1 hj;obtain⟨h1,h2⟩:=hj';rw[getElem!_pos (enc x) j h1,h2]
end Go.Fw
