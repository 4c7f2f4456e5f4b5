/- The engine. -/
import Derived.Test.YtkbkaodgfedfmaaGreatFwD
namespace Go.Fw
open Go Go.RowKit
variable {w0 w:World} {M:Nat→Prop} {I0 I:IH} {m m':List HA}
variable {P:Program} {n:FrK} {E:CZ} {Q:Exit→Act→World→Prop} {ops:Array Oper} {l:List Oper}
variable {d ty:Nat} {pos:String} {af:Array Edge} {T e:TypeId} {x y:Operand}
variable {α:Type} {El:EP α} {xs ys:List α} {a:Option Addr} {cap:Nat}
/-! ### s[lo:hi] -/
variable {T' sT e':TypeId} {zc:Value}
def xE (E:CZ):Option Operand->Option (Option Value)
 | none=>some none
 | some x=>match ev E x with | some v=>some (some v) | none=>none
theorem N2 {c:Act} (D:Ok n E c) {x:Option Operand} {v:Option Value} (h:xE E x=some v):x.map c.eval=v:=by
 cases x with
 | none=>simp[xE] at h; simp[h]
 | some x=>
  simp only[xE] at h
  cases hx:ev E x with
  | none=>rw[hx] at h; cases h
  | some u=>rw[hx] at h; cases h; simp[D.eval hx]
theorem RepSl.slice (h:RepSl El I a cap xs) {lo hi:Nat} (h1:lo<=hi) (h2:hi<=xs.length):RepSl El I (if cap=lo then a else a.map (·.add (lo*El.sz))) (cap - lo) ((xs.take hi).drop lo):=by
 have hc:=h.1;refine⟨by simp; omega,λi x D=>?_⟩;rw[List.getElem?_drop,List.getElem?_take] at D;split at D
 . rename_i O;obtain⟨b,off,cs,K,J,U⟩:=h.2 _ _ D
   have:¬cap=lo:=by have:=(List.getElem?_eq_some_iff.1 D).1;omega
   rw[if_neg this];refine⟨b,off+lo*El.sz,cs,?_,?_,U⟩
   . rw[K]; simp only[Option.map_some,Addr.add]; split <;> simp_all
   . rw[Nat.add_mul] at J; rw[Nat.add_assoc]; exact J
 . cases D
theorem nD {lo hi:Option Value} {L H k s:Nat} (hT:P.underlying T=some (.slice e)) (Z:∀ w,(sizeOf e).run P w=.ok s w) (h1:L<=H) (h2:H<=k) (hk:k<=cap)
  (h:lo=none∧L=0∨∃ q i,lo=some (.int q i)∧0<=i∧i.toNat=L) (J:hi=none∧H=k∨∃ q i,hi=some (.int q i)∧0<=i∧i.toNat=H) (w:World) :
  (Instr.sliceAt T (.slice a k cap) lo hi none).run P w=.ok (.slice (if cap=L then a else a.map (·.add (L*s))) (H - L) (cap - L)) w:=by
 have D:(Instr.sliceBounds true k cap lo hi none).run P w=.ok (L,H,cap) w:=by
  simp only[Instr.sliceBounds];rcases J with⟨rfl,rfl⟩ | ⟨q,i,rfl,U,K⟩ <;> rcases h with⟨rfl,rfl⟩ | ⟨q',W,rfl,V,O⟩
  . simp
  . have:W<=(H:Int):=by omega
    simp[Instr.sliceBound,asIntOf,V,this,O]
  . have:i<=(cap:Int):=by omega
    simp[Instr.sliceBound,asIntOf,U,this,K]
  . have g1:i<=(cap:Int):=by omega
    have g2:W<=(H:Int):=by omega
    simp[Instr.sliceBound,asIntOf,U,g1,V,g2,K,O]
 simp only[Instr.sliceAt,Sem.run_bind,run_underlying hT,Result.andThen_ok,Instr.slice,D,Z,Sem.run_pure]
def RepCs (El:EP α) (I:IH) (src:List Value) (ys:List α):Prop:=
 src.length=ys.length*El.sz∧(∀ i y,ys[i]? = some y->∃ cs,El.rep I cs y∧∀ j v,cs[j]? = some v->src[i*El.sz+j]? = some v)∧N1 src=true
theorem xI {a b:List Value} (h:N1 a=true) (k:N1 b=true):N1 (a++b)=true:=by
 induction a with
 | nil=>exact k
 | cons v a D=>simp only[N1,Bool.and_eq_true,List.cons_append] at h ⊢; exact⟨h.1,D h.2⟩
theorem RepCs.nil:RepCs El I [] ([]:List α):=⟨by simp,λi y h=>by simp at h,rfl⟩
theorem RepCs.cons {cs src:List Value} {v:α} {vs:List α} (h:El.rep I cs v) (k:RepCs El I src vs):RepCs El I (cs++src) (v :: vs):=by
 have O:=El.len h;refine⟨by simp[k.1,O,Nat.add_mul,Nat.add_comm],λi y K=>?_,xI (El.one h) k.2.2⟩
 cases i with
 | zero=>
  simp at K; subst K;exact⟨cs,h,λj u D=>by rw[Nat.zero_mul,Nat.zero_add,List.getElem?_append_left (List.getElem?_eq_some_iff.1 D).1]; exact D⟩
 | succ i=>
  obtain⟨J,V,U⟩:=k.2.1 i y (by simpa using K);refine⟨J,V,λj u D=>?_⟩;rw[List.getElem?_append_right (by rw[O,Nat.add_mul]; omega),<-U j u D];congr 1; rw[O,Nat.add_mul]; omega
theorem RepCs.one {cs:List Value} {v:α} (h:El.rep I cs v):RepCs El I cs [v]:=by have:=RepCs.cons h (RepCs.nil (El:=El) (I:=I)); rwa [List.append_nil] at this
def Src (P:Program) (El:EP α) (I:IH) (S:World->Prop) (v:Value) (ys:List α):Prop:=
 (∃ b k c,v=.slice b k c∧k=ys.length)∧∃ src,RepCs El I src ys∧∀ w,S w->∀ w':World,w'.heap=w.heap->(Builtin.firstCells El.sz ys.length v).run P w'=.ok src.toArray w'
theorem Src.imm {k:Nat} (hR:RepSl El I a cap ys) (hk:k=ys.length):Src P El I (Sym w0 M I0 I m) (.slice a k cap) ys:=by
 subst hk;refine⟨⟨_,_,_,rfl,rfl⟩,?_⟩
 suffices H:∀ (K:List α) (o:Nat),(∀ i x,K[i]? = some x->∃ b off cs,a=some ⟨b,off,none⟩∧ImC I b (off+(o+i)*El.sz) cs∧El.rep I cs x) ->
    ∃ src,RepCs El I src K∧∀ w,Sym w0 M I0 I m w->∀ j v,src[j]? = some v->∃ b off,a=some ⟨b,off,none⟩∧w.cell? ⟨b,off+o*El.sz+j,none⟩=some v by
  obtain⟨src,O,h2⟩:=H ys 0 (λi x hx=>by simpa using hR.2 i x hx);refine⟨src,O,λw1 V w W=>?_⟩
  cases a with
  | none=>
    cases ys with
    | nil=>have:=O.1; simp at this; subst this; simp[Builtin.firstCells]
    | cons y ys=>obtain⟨_,_,_,g,_⟩:=hR.2 0 y (by simp); cases g
  | some p=>
    simp only[Builtin.firstCells];rw[<-O.1];refine run_loadCells_list w p src λj v J=>?_;obtain⟨b,off,g1,D⟩:=h2 w1 V j v J;have Z:w.cell? ⟨b,off+0*El.sz+j,none⟩=some v:=by simp only[World.cell?,W]; exact D
    clear D; have D:=Z;cases g1;rw[Nat.zero_mul,Nat.add_zero] at D;have e2:(⟨b,off,none⟩:Addr).add j=⟨b,off+j,none⟩:=by unfold Addr.add; split <;> simp_all
    rw[e2]; exact D
 intro K
 induction K with
 | nil=>exact λo _=>⟨[],.nil,λw _ j v h=>by simp at h⟩
 | cons z K ih=>
  intro o h
  obtain⟨src,O,h2⟩:=ih (o+1) (λi x hx=>by
    have:=h (i+1) x (by simpa using hx)
    rwa [show o+(i+1)=o+1+i by omega] at this)
  obtain⟨b,off,cs,g1,D,g3⟩:=h 0 z (by simp);refine⟨cs++src,.cons g3 O,λw V j v J=>?_⟩;have hl:=El.len g3;rcases Nat.lt_or_ge j cs.length with h4 | h4
  . rw[List.getElem?_append_left h4] at J;exact⟨b,off,g1,by simpa using D.cell V J⟩
  . rw[List.getElem?_append_right h4] at J;obtain⟨b',U,g4,g5⟩:=h2 w V _ v J;refine⟨b',U,g4,?_⟩;rw[<-g5]; congr 2; rw[Nat.add_mul]; omega
theorem Src.box {b:Nat} {src:List Value} {k:Nat} (U:Del m (Fw.pto b (.cells src.toArray T' (0,0))) m') (J:RepCs El I src ys) (hk:k=ys.length) :
  Src P El I (Sym w0 M I0 I m) (.slice (some ⟨b,0,none⟩) k cap) ys:=by
 subst hk;refine⟨⟨_,_,_,rfl,rfl⟩,src,J,λw1 K w D=>?_⟩;simp only[Builtin.firstCells];rw[<-J.1];refine run_loadCells_list w _ src λj v O=>?_;have e:(⟨b,0,none⟩:Addr).add j=⟨b,j,none⟩:=by unfold Addr.add; split <;> simp_all
 have h:=(K.del U).pto;rw[<-D] at h;rw[e,LU h]; simpa using O
theorem uE {z:Array Value} {s:Nat} (k:Nat) (h:z.size=s):(Builtin.zeroCells z k).size=k*s:=by simp[Builtin.zeroCells,h]
theorem LV {ty':TypeId} {k kv cv:Nat} {bv:Option Addr} {src:Array Value} {s:Nat} {w':World} (O:P.underlying sT=some (.slice e)) (J:P.underlying T'=some (.slice e')) (K:∀ w,(sizeOf e).run P w=.ok s w)
  (h:k+kv<=cap) (D:(Builtin.firstCells s kv (.slice bv kv cv)).run P w=.ok src w) (W:∀ p,a=some p->(storeCells (p.add (k*s)) src.toList).run P w=.ok () w') (V:a=none->w'=w) :
  (Builtin.append_ #[sT,T'] ty' #[.slice a k cap,.slice bv kv cv]).run P w=.ok (.slice a (k+kv) cap) w':=by
 have U:∀ w,(Builtin.lenOf (.slice bv kv cv)).run P w=.ok kv w:=λw=>rfl
 cases a with
 | none=>simp[Builtin.append_,run_underlying O,run_underlying J,K,U,h,D,V rfl]
 | some p=>simp[Builtin.append_,run_underlying O,run_underlying J,K,U,h,D,W p rfl]
theorem nE {ty':TypeId} {k kv cv:Nat} {bv:Option Addr} {src old:Array Value} {s B:Nat} {i:TypeInfo} (hT:P.underlying sT=some (.slice e)) (U:P.underlying T'=some (.slice e')) (hi:P.info? e=some i)
  (hs:i.size=s) (hB:i.bytes=B) (hz:i.zero=some zc) (h:¬k+kv<=cap) (K:(k+kv)*B<=140737488355328) (h63:((k+kv:Nat):Int)<=9223372036854775807)
  (D:∀ w':World,w'.heap=w.heap->(Builtin.firstCells s k (.slice a k cap)).run P w'=.ok old w') (O:∀ w':World,w'.heap=w.heap->(Builtin.firstCells s kv (.slice bv kv cv)).run P w'=.ok src w') :
  ∃ c dr,k+kv<=c∧w.drawn<=dr∧(Builtin.append_ #[sT,T'] ty' #[.slice a k cap,.slice bv kv cv]).run P w =
   .ok (.slice (some ⟨w.heap.size,0,none⟩) (k+kv) c) (({ w with drawn:=dr }:World).alloc (.cells (old++src++Builtin.zeroCells zc.cells (c - (k+kv))) e)):=by
 have hso:∀ w,(sizeOf e).run P w=.ok s w:=λw=>by simp[sizeOf,typeInfo,hi,hs]
 have J:∀ w,(typeInfo e).run P w=.ok i w:=λw=>by simp[typeInfo,hi]
 have V:∀ w,(zeroValue e).run P w=.ok zc w:=λw=>by simp[zeroValue,J,hz]
 have Z:=growslice_fits (Nat.lt_of_not_le h) K;have hl:∀ w,(Builtin.lenOf (.slice bv kv cv)).run P w=.ok kv w:=λw=>rfl;have g1:¬(281474976710656<Builtin.nextslicecap (k+kv) cap*B):=by omega
 have g2:¬(9223372036854775807<(k:Int)+(kv:Int)):=by omega
 have hq:(Question.appendCap (k+kv) cap e).forced=false:=rfl;refine⟨(Question.appendCap (k+kv) cap e).cut (w.tape w.drawn (Question.appendCap (k+kv) cap e)),w.drawn+1,Nat.le_add_right _ _,Nat.le_succ _,?_⟩;have W:IntKind.i64.max=9223372036854775807:=rfl;have ho:=D w.drew rfl;have hr:=O w.drew rfl;simp only[Builtin.append_,List.getElem?_toArray,List.getElem?_cons_zero,List.getElem?_cons_succ,Sem.run_bind,run_underlying hT,run_underlying U,Result.andThen_ok,Sem.run_pure,hso,hl,h,if_false,Bool.false_eq_true,J,hB,g1,g2,false_and,false_or,W,Int.natCast_add];simp[run_choose,hq,ho,hr,V,newRow]
theorem Sym.appendNew {ty':TypeId} {r:List HA} {B:Nat} {i:TypeInfo} (h:Sym w0 M I0 I r w)
   (hT:P.underlying sT=some (.slice e)) (hT':P.underlying T'=some (.slice e')) (hi:P.info? e=some i) (hsz:i.size=El.sz) (hB:i.bytes=B) (hz:i.zero=some zc) (hzc:zc.cells.size=El.sz)
   {bv:Option Addr} {cv:Nat} {src:List Value} (K:RepCs El I src ys) (hrun:∀ w':World,w'.heap=w.heap->(Builtin.firstCells El.sz ys.length (.slice bv ys.length cv)).run P w'=.ok src.toArray w')
   (hlim:(xs.length+ys.length)*B<=140737488355328) (h63:B=0->xs.length+ys.length<=140737488355328) (V:¬xs.length+ys.length<=cap)
   (U:∃ old:List Value,(∀ w':World,w'.heap=w.heap->(Builtin.firstCells El.sz xs.length (.slice a xs.length cap)).run P w'=.ok old.toArray w')∧old.length=xs.length*El.sz ∧
      ∀ i x,xs[i]? = some x->∃ cs,El.rep I cs x∧∀ j v,cs[j]? = some v->old[i*El.sz+j]? = some v) :
   ∃ a' O w',(Builtin.append_ #[sT,T'] ty' #[.slice a xs.length cap,.slice bv ys.length cv]).run P w=.ok (.slice a' (xs++ys).length O) w'∧Sym w0 M I0 I (OwnSl El e a' O (xs++ys) :: r) w':=by
 rw[List.length_append];obtain⟨old,ho1,J,ho3⟩:=U
 have W:((xs.length+ys.length:Nat):Int)<=9223372036854775807:=by
   by_cases hB0:B=0
   . have:=h63 hB0; omega
   . have:xs.length+ys.length<=(xs.length+ys.length)*B:=Nat.le_mul_of_pos_right _ (Nat.pos_of_ne_zero hB0);omega
 obtain⟨c,dr,hc,hdr,hr⟩:=nE (w:=w) (ty':=ty') (bv:=bv) (cv:=cv) hT hT' hi hsz hB hz V hlim W ho1 hrun;refine⟨_,_,_,hr,?_⟩;refine((h.drew dr hdr).alloc _).weaken λq hq=>.inr ⟨_,_,rfl,hq,by simpa using hc,?_,?_⟩
 . have Z:=uE (c - (xs.length+ys.length)) hzc;simp only[Array.size_append,List.size_toArray,J,K.1,Z];rw[<-Nat.add_mul,<-Nat.add_mul]; congr 1; omega
 . intro i2 x2 D;rcases Nat.lt_or_ge i2 xs.length with h6 | h6
   . rw[List.getElem?_append_left h6] at D;obtain⟨cs,g3,g4⟩:=ho3 i2 x2 D;refine⟨cs,g3,λj u hj=>?_⟩;have h7:=g4 j u hj;have h8:=(List.getElem?_eq_some_iff.1 h7).1;rw[Array.append_assoc,Array.getElem?_append_left (by simpa using h8)];simpa using h7
   . rw[List.getElem?_append_right h6] at D;obtain⟨cs,g3,g4⟩:=K.2.1 _ x2 D;refine⟨cs,g3,λj u hj=>?_⟩;have h7:=g4 j u hj;have h8:=(List.getElem?_eq_some_iff.1 h7).1;have e3:i2*El.sz=xs.length*El.sz+(i2 - xs.length)*El.sz:=by rw[<-Nat.add_mul]; congr 1; omega
     rw[Array.append_assoc,Array.getElem?_append_right (by simp[J]; omega),Array.getElem?_append_left (by simp[J]; omega)];rw[<-h7];simp only[List.size_toArray,J,List.getElem?_toArray];congr 1; omega
theorem Sym.append {ty':TypeId} {v:Value} {r:List HA} {B:Nat} {i:TypeInfo} (h:Sym w0 M I0 I (OwnSl El e a cap xs :: r) w)
   (hT:P.underlying sT=some (.slice e)) (W:P.underlying T'=some (.slice e')) (hi:P.info? e=some i) (hsz:i.size=El.sz) (hB:i.bytes=B) (hz:i.zero=some zc) (hzc:zc.cells.size=El.sz)
   (hv:∃ b k c,v=.slice b k c∧k=ys.length) {src:List Value} (D:RepCs El I src ys) (O:∀ w':World,w'.heap=w.heap->(Builtin.firstCells El.sz ys.length v).run P w'=.ok src.toArray w')
   (hlim:(xs.length+ys.length)*B<=140737488355328) (h63:B=0->xs.length+ys.length<=140737488355328) {k:Nat} (hk:k=xs.length) :
   ∃ a' J w',(Builtin.append_ #[sT,T'] ty' #[.slice a k cap,v]).run P w=.ok (.slice a' (xs++ys).length J) w'∧Sym w0 M I0 I (OwnSl El e a' J (xs++ys) :: r) w'∧(xs.length+ys.length<=cap->a'=a∧J=cap):=by
 subst hk;obtain⟨bv,kv,cv,rfl,rfl⟩:=hv;have hso:∀ w,(sizeOf e).run P w=.ok El.sz w:=λw=>by simp[sizeOf,typeInfo,hi,hsz]
 obtain⟨k1,hk1,hk1w⟩:=h.get;rw[List.length_append];by_cases hfit:xs.length+ys.length<=cap
 . -- there is room
   rcases hk1 with⟨Z,h2,h3⟩ | ⟨b,c,Z,h2,h3,h4,h5⟩
   . subst Z h2 h3;have hy:ys=[]:=List.eq_nil_of_length_eq_zero (by simpa using hfit);subst hy;exact⟨none,0,w,LV hT W hso hfit (O w rfl) (λp hp=>by cases hp) (λ_=>rfl),h,λ_=>⟨rfl,rfl⟩⟩
   . subst Z;obtain⟨hb,himm,hn,kk,⟨g1,g2,hd',hl1,hl2,ha,hs'⟩,hkk,hdj,hm⟩:=h;rcases ha with⟨h1',_⟩ | ⟨b',c',h1',h2',h3',h4',h5'⟩
     . cases h1'
     cases h1';have hpt:Sym w0 M I0 I (Fw.pto b (.cells c' e (0,0)) :: r) w:=⟨hb,himm,hn,kk,⟨g1,g2,hd',hl1,hl2,h2',hs'⟩,hkk,hdj,hm⟩;have hmul:xs.length*El.sz+ys.length*El.sz<=cap*El.sz:=by rw[<-Nat.add_mul]; exact Nat.mul_le_mul_right _ hfit
     have hr:=run_storeCells_at (P:=P) b (xs.length*El.sz) e src 0 c' w hpt.pto (by rw[h4',D.1]; omega) (VI D.2.2);have e1:(⟨b,0,none⟩:Addr).add (xs.length*El.sz)=⟨b,xs.length*El.sz,none⟩:=by unfold Addr.add; split <;> simp_all
     refine⟨some ⟨b,0,none⟩,cap,_,LV hT W hso hfit (O w rfl) (λp hp=>by cases hp; rw[e1]; exact hr) (λh=>by cases h),?_,λ_=>⟨rfl,rfl⟩⟩;have hup:=hpt.upd (o':=.cells (c'.toList.take (xs.length*El.sz+0)++src++c'.toList.drop (xs.length*El.sz+0+src.length)).toArray e (0,0)) (w':=w.setRow b _) rfl rfl rfl rfl (by simp[World.setRow]) (λq hq=>Fw.setRow_other hq) (setRow_heap w b _ _ e _ hpt.pto);refine hup.weaken λq hq=>.inr ⟨b,_,rfl,hq,by simpa using hfit,?_,?_⟩
     . simp[D.1]; omega
     . intro i2 x2 U;simp only[Nat.add_zero,List.getElem?_toArray];rcases Nat.lt_or_ge i2 xs.length with h6 | h6
       . rw[List.getElem?_append_left h6] at U;obtain⟨cs,g3,g4⟩:=h5' i2 x2 U;refine⟨cs,g3,λj u K=>?_⟩;have hjl:j<El.sz:=by rw[<-El.len g3]; exact(List.getElem?_eq_some_iff.1 K).1
         have V:(i2+1)*El.sz<=xs.length*El.sz:=Nat.mul_le_mul_right _ h6;rw[Nat.add_mul,Nat.one_mul] at V;have:=g4 j u K;rw[<-Array.getElem?_toList] at this;rw[List.append_assoc,List.getElem?_append_left (by simp; omega),List.getElem?_take,if_pos (by omega),this]
       . rw[List.getElem?_append_right h6] at U;obtain⟨cs,g3,g4⟩:=D.2.1 _ x2 U;refine⟨cs,g3,λj u K=>?_⟩;have h7:=g4 j u K;have h8:=(List.getElem?_eq_some_iff.1 h7).1;have e3:i2*El.sz=xs.length*El.sz+(i2 - xs.length)*El.sz:=by rw[<-Nat.add_mul]; congr 1; omega
         rw[List.append_assoc,List.getElem?_append_right (by simp; omega),List.getElem?_append_left (by simp; omega),<-h7];simp only[List.length_take,Array.length_toList];congr 1; omega
 . -- a new array
   have hold:∃ old:List Value,(∀ w':World,w'.heap=w.heap->(Builtin.firstCells El.sz xs.length (.slice a xs.length cap)).run P w'=.ok old.toArray w')∧old.length=xs.length*El.sz ∧
       ∀ i x,xs[i]? = some x->∃ cs,El.rep I cs x∧∀ j v,cs[j]? = some v->old[i*El.sz+j]? = some v:=by
     rcases hk1 with⟨Z,h2,h3⟩ | ⟨b,c,Z,h2,h3,h4,h5⟩
     . subst Z h2 h3; exact⟨[],λw' _=>by simp[Builtin.firstCells],by simp,λi x h=>by simp at h⟩
     . subst Z;have hcap:xs.length*El.sz<=c.size:=by rw[h4]; exact Nat.mul_le_mul_right _ h3
       refine⟨c.toList.take (xs.length*El.sz),λw' hw'=>?_,by simp; omega,λi x hx=>?_⟩
       . simp only[Builtin.firstCells];have hlt:(c.toList.take (xs.length*El.sz)).length=xs.length*El.sz:=by rw[List.length_take]; exact Nat.min_eq_left (by simpa using hcap)
         have:=run_loadCells_list (P:=P) w' ⟨b,0,none⟩ (c.toList.take (xs.length*El.sz)) (λj v K=>by
          have e1:(⟨b,0,none⟩:Addr).add j=⟨b,j,none⟩:=by unfold Addr.add; split <;> simp_all
          have hb':w'.heap[b]? = some (.cells c e (0,0)):=by rw[hw']; exact hk1w _ _ h2
          rw[e1,LU hb'];rw[List.getElem?_take] at K;split at K
          . simpa using K
          . cases K)
         rwa [hlt] at this
       . obtain⟨cs,g3,g4⟩:=h5 i x hx;refine⟨cs,g3,λj u K=>?_⟩;have hjl:j<El.sz:=by rw[<-El.len g3]; exact(List.getElem?_eq_some_iff.1 K).1
         have hil:=(List.getElem?_eq_some_iff.1 hx).1;have V:(i+1)*El.sz<=xs.length*El.sz:=Nat.mul_le_mul_right _ hil;rw[Nat.add_mul,Nat.one_mul] at V;rw[List.getElem?_take,if_pos (by omega)];simpa using g4 j u K
   obtain⟨a',J,w',g1,g2⟩:=h.drop.appendNew (P:=P) (ty':=ty') hT W hi hsz hB hz hzc D O hlim h63 hfit hold;rw[List.length_append] at g1;exact⟨a',J,w',g1,g2,λh=>absurd h hfit⟩
theorem Ops.append {i:TypeInfo} {v:Value} {J:Array TypeId} {k:Nat} (B:Nat) (hA:Del m (OwnSl El e a cap xs) m') (hT:P.underlying sT=some (.slice e)) (W:P.underlying T'=some (.slice e')) (hi:P.info? e=some i)
  (hsz:i.size=El.sz) (hB:i.bytes=B) (hz:i.zero=some zc) (hzc:zc.cells.size=El.sz) (h63:Nat.blt 0 B=true) (O:J = #[sT,T']) (hx:ev E x=some (.slice a k cap)) (hk:k=xs.length) (hy:ev E y=some v) (hS:Src P El I (Sym w0 M I0 I m) v ys)
  (K:(xs.length+ys.length)*B<=140737488355328) (hb:Nat.blt d n.sz=true) (hf:fresh E d=true)
  (k':∀ D h,Ops P ops l n ((d,.slice D (xs++ys).length h) :: E) (Sym w0 M I0 I (OwnSl El e D h (xs++ys) :: m')) Q) :
  Ops P ops (⟨some d,.call ⟨.builtin .append,#[x,y],J⟩,ty,pos,af,none⟩ :: l) n E (Sym w0 M I0 I m) Q:=
 Ops.valx (λv w'=>∃ D h,v=.slice D (xs++ys).length h∧Sym w0 M I0 I (OwnSl El e D h (xs++ys) :: m') w') rfl rfl
  (λc w V U=>by
   obtain⟨hv,src,h1,h2⟩:=hS;obtain⟨D,h,w',hr,Z,_⟩:=(U.del hA).append (P:=P) (ty':=ty) hT W hi hsz hB hz hzc hv h1 (h2 w U) K (λh0=>by subst h0; cases h63) hk;subst O;refine⟨_,w',?_,D,h,rfl,Z⟩;have e:(#[x,y].map c.eval) = #[.slice a k cap,v]:=by simp[V.eval hx,V.eval hy]
   simp only[execOp,resolve,e,Sem.run_bind,Sem.run_pure,Result.andThen_ok,invoke,builtin,hr]) hb hf
  (λv c w V ⟨D,h,hv,U⟩=>by subst hv; exact k' D h c w V U)
end Go.Fw
