/- The engine. -/
import Derived.Test.YtkbkaodgfedfmaaGreatFwM
import Derived.Test.YtkbkaodgfedfmaaGreatFwN
namespace Go.Fw
open Go Go.RowKit
variable {w0 w:World} {M:Nat→Prop} {I0 I:IH} {m m':List HA}
variable {P:Program} {n:FrK} {E:CZ} {Q:Exit→Act→World→Prop} {ops:Array Oper} {l:List Oper}
variable {d ty:Nat} {pos:String} {af:Array Edge} {T e:TypeId} {x y:Operand}
variable {α:Type} {El:EP α} {xs ys:List α} {a:Option Addr} {cap:Nat}
variable {T':TypeId}
def QSl (El:EP α) (T:TypeId) (a:Option Addr) (cap:Nat) (xs:List α):HA where
 holds I h:=(OwnSl El T a cap xs).holds I h∨RepSl El I a cap xs∧cap=xs.length
 mono:=λhI hh=>fun
  | .inl h=>.inl ((OwnSl El T a cap xs).mono hI hh h)
  | .inr h=>.inr ⟨h.1.mono hI,h.2⟩
theorem Sym.qCases (h:Sym w0 M I0 I (QSl El T a cap xs :: m) w):Sym w0 M I0 I (OwnSl El T a cap xs :: m) w∨(RepSl El I a cap xs∧cap=xs.length)∧Sym w0 M I0 I m w:=by
 have K:=h.drop;obtain⟨J,hi,O,k,⟨h1,h2,hd',hl1,hl2,D,hs'⟩,hk,hdj,hm⟩:=h;rcases D with D | D
 . exact .inl ⟨J,hi,O,k,⟨h1,h2,hd',hl1,hl2,D,hs'⟩,hk,hdj,hm⟩
 . exact .inr ⟨D,K⟩
theorem Sym.pubQ (h:Sym w0 M I0 I m w) (J:Del m (QSl El T a cap xs) m'):∃ D,I.le D∧RepSl El D a cap xs∧Sym w0 M I0 D m' w:=by
 rcases(h.del J).qCases with h | h
 . exact h.pubSl .z
 . exact⟨I,IH.le.refl I,h.1.1,h.2⟩
theorem Ops.pubQ (U:Del m (QSl El T a cap xs) m') (k:∀ h,I.le h->RepSl El h a cap xs->Ops P ops l n E (Sym w0 M I0 h m') Q):Ops P ops l n E (Sym w0 M I0 I m) Q:=
 λc w O D=>by obtain⟨h,V,K,J⟩:=D.pubQ U; exact k h V K c w O J
theorem Sym.qIn (h:Sym w0 M I0 I m w) (J:At m (OwnSl El T a cap xs) m' (QSl El T a cap xs)):Sym w0 M I0 I m' w:=
 Sym.reAt J h λ_ D=>D.weaken λ_ hk=>.inl hk
theorem Ops.qIn (D:At m (OwnSl El T a cap xs) m' (QSl El T a cap xs)) (k:Ops P ops l n E (Sym w0 M I0 I m') Q):Ops P ops l n E (Sym w0 M I0 I m) Q:=Ops.pre (λ_ h=>h.qIn D) k
theorem Sym.qNew (h:Sym w0 M I0 I m w) (T:TypeId) (K:RepSl El I a cap xs) (J:cap=xs.length):Sym w0 M I0 I (QSl El T a cap xs :: m) w:=by obtain⟨O,hi,W,k,D,hk,V,U⟩:=h;exact⟨O,hi,W,k,⟨λ_=>none,k,λ_=>.inl rfl,(λ_ _ x=>nomatch x),IH.le.refl _,.inr ⟨K,J⟩,D⟩,hk,V,U⟩
theorem Ops.qNew (T:TypeId) (J:RepSl El I a cap xs) (D:cap=xs.length) (k:Ops P ops l n E (Sym w0 M I0 I (QSl El T a cap xs :: m)) Q):Ops P ops l n E (Sym w0 M I0 I m) Q:=Ops.pre (λ_ h=>h.qNew T J D) k
theorem Ops.neQ (W:Del m (QSl El T a cap xs) m') (D:xs≠[]) (k:∀ b off,a=some ⟨b,off,none⟩->Ops P ops l n E (Sym w0 M I0 I m) Q):Ops P ops l n E (Sym w0 M I0 I m) Q:=by
 intro c w O J;rcases(J.del W).qCases with h | ⟨⟨h,_⟩,_⟩
 . obtain⟨k1,U,_⟩:=h.get;rcases U with⟨_,V,_⟩ | ⟨b,_,K,_⟩
   . exact absurd V D
   . exact k b 0 K c w O J
 . cases xs with
   | nil=>exact absurd rfl D
   | cons x xs=>
     obtain⟨b,off,cs,K,_⟩:=h.2 0 x rfl;exact k b off K c w O J
theorem Ops.loQW {b off o i Z:Nat} {v:α} (hT:∀ w,(isAgg T).run P w=.ok true w) (hS:∀ w,(sizeOf T).run P w=.ok Z w) (hA:Del m (QSl El T' (some ⟨b,off,none⟩) cap xs) m') (hi:xs[i]? = some v)
  (hx:ev E x=some (.pointer (some ⟨b,o,none⟩))) (W:o=off+i*El.sz) (hl:El.sz=Z) (hb:Nat.blt d n.sz=true) (hf:fresh E d=true) (k:∀ cs,El.rep I cs v->Ops P ops l n ((d,.agg cs.toArray) :: E) (Sym w0 M I0 I m) Q) :
  Ops P ops (⟨some d,.load T x,ty,pos,af,none⟩ :: l) n E (Sym w0 M I0 I m) Q:=
 Ops.valx (λu w'=>(∃ cs,u=.agg cs.toArray∧El.rep I cs v)∧Sym w0 M I0 I m w') rfl rfl (λc w hc K=>by
  subst W
  have key:∃ cs,El.rep I cs v∧∀ j u,cs[j]? = some u->w.cell? ⟨b,off+i*El.sz+j,none⟩=some u:=by
   rcases(K.del hA).qCases with h | ⟨⟨h,_⟩,_⟩
   . obtain⟨k1,ha,_⟩:=h.get;rcases ha with⟨J,_⟩ | ⟨b',_,J,_⟩
     . cases J
     . cases J;obtain⟨cs,D,U⟩:=OwnSl.els h .z hi;exact⟨cs,D,λj u O=>by rw[Nat.zero_add]; exact U j u O⟩
   . obtain⟨b',off',cs,J,h2,h3⟩:=h.2 i v hi;cases J;exact⟨cs,h3,λj u O=>h2.cell K O⟩
  obtain⟨cs,D,U⟩:=key;refine⟨.agg cs.toArray,w,?_,⟨cs,rfl,D⟩,K⟩;simp[execOp,hc.eval hx,JY (P:=P) hT hS (El.len D |>.trans hl) (λi' v' V=>U i' v' V)]) hb hf (λu c w W ⟨⟨cs,hu,D⟩,K⟩=>by subst hu; exact k cs D c w W K)
theorem RepCs.old (K:RepSl El I a xs.length xs) (h:Sym w0 M I0 I m w):∃ old:List Value,(∀ w':World,w'.heap=w.heap->(Builtin.firstCells El.sz xs.length (.slice a xs.length xs.length)).run P w'=.ok old.toArray w')∧old.length=xs.length*El.sz ∧
  ∀ i x,xs[i]? = some x->∃ cs,El.rep I cs x∧∀ j v,cs[j]? = some v->old[i*El.sz+j]? = some v:=by
 obtain⟨_,src,D,J⟩:=Src.imm (P:=P) (w0:=w0) (M:=M) (I0:=I0) (m:=m) K rfl;exact⟨src,J w h,D.1,D.2.1⟩
theorem Ops.appendQ {sT e':TypeId} {i:TypeInfo} {zc v:Value} {W:Array TypeId} {k:Nat} (B:Nat) (hA:Del m (QSl El e a cap xs) m') (hT:P.underlying sT=some (.slice e)) (U:P.underlying T'=some (.slice e')) (hi:P.info? e=some i)
  (hsz:i.size=El.sz) (hB:i.bytes=B) (hz:i.zero=some zc) (V:zc.cells.size=El.sz) (Z:Nat.blt 0 B=true) (htys:W = #[sT,T']) (hx:ev E x=some (.slice a k cap)) (hk:k=xs.length) (hy:ev E y=some v) (hS:Src P El I (Sym w0 M I0 I m) v ys)
  (hys:ys≠[]) (O:(xs.length+ys.length)*B<=140737488355328) (hb:Nat.blt d n.sz=true) (hf:fresh E d=true)
  (k':∀ J D,Ops P ops l n ((d,.slice J (xs++ys).length D) :: E) (Sym w0 M I0 I (OwnSl El e J D (xs++ys) :: m')) Q) :
  Ops P ops (⟨some d,.call ⟨.builtin .append,#[x,y],W⟩,ty,pos,af,none⟩ :: l) n E (Sym w0 M I0 I m) Q:=
 Ops.valx (λv w'=>∃ J D,v=.slice J (xs++ys).length D∧Sym w0 M I0 I (OwnSl El e J D (xs++ys) :: m') w') rfl rfl
  (λc w ho hs=>by
   obtain⟨hv,src,h1,h2⟩:=hS;subst htys;have e0:(#[x,y].map c.eval) = #[.slice a k cap,v]:=by simp[ho.eval hx,ho.eval hy]
   have key:∃ J D w',(Builtin.append_ #[sT,T'] ty #[.slice a k cap,v]).run P w=.ok (.slice J (xs++ys).length D) w'∧Sym w0 M I0 I (OwnSl El e J D (xs++ys) :: m') w':=by
    rcases(hs.del hA).qCases with h | ⟨⟨h,hc⟩,K⟩
    . obtain⟨J,D,w',hr,K,_⟩:=h.append (P:=P) (ty':=ty) hT U hi hsz hB hz V hv h1 (h2 w hs) O (λh0=>by subst h0; cases Z) hk;exact⟨J,D,w',hr,K⟩
    . obtain⟨bv,kv,cv,rfl,rfl⟩:=hv;subst hk hc;have hp:=List.length_pos_iff.2 hys;exact K.appendNew (P:=P) hT U hi hsz hB hz V h1 (h2 w hs) O (λh0=>by subst h0; cases Z) (by omega) (RepCs.old h K)
   obtain⟨J,D,w',hr,K⟩:=key;refine⟨_,w',?_,J,D,rfl,K⟩;simp only[execOp,resolve,e0,Sem.run_bind,Sem.run_pure,Result.andThen_ok,invoke,builtin,hr]) hb hf
  (λv c w ho ⟨J,D,hv,hs⟩=>by subst hv; exact k' J D c w ho hs)
theorem Ops.sliceR {hi:Option Operand} {k s:Nat} {q:IntKind} {i:Int} (U:P.underlying T=some (.slice e)) (hs:∀ w,(sizeOf e).run P w=.ok s w) (hx:ev E x=some (.slice a k cap)) (hA:Del m (OwnSl El T' a cap xs) m')
  (W:xE E hi=some (some (.int q i))) (h0:0<=i) (h1:i.toNat=xs.length) (Z:Nat.blt d n.sz=true) (V:fresh E d=true) (O:Ops P ops l n ((d,.slice a xs.length cap) :: E) (Sym w0 M I0 I m) Q) :
  Ops P ops (⟨some d,.slice T x none hi none,ty,pos,af,none⟩ :: l) n E (Sym w0 M I0 I m) Q:=by
 refine Ops.val rfl rfl (λc w K h=>?_) Z V O;obtain⟨k1,ha,_⟩:=(h.del hA).get
 have hc:xs.length<=cap:=by
  rcases ha with⟨_,h2,D⟩ | ⟨b,_,_,_,D,_⟩
  . rw[h2,D]; exact Nat.le_refl _
  . exact D
 have g1:i<=(cap:Int):=by omega
 have J:(Instr.sliceBounds true k cap none (some (.int q i)) none).run P w=.ok (0,xs.length,cap) w:=by simp[Instr.sliceBounds,Instr.sliceBound,asIntOf,h0,g1,h1]
 have hv:(if cap=0 then a else a.map (·.add (0*s)))=a:=jE a cap s;simp only[execOp,K.eval hx,N2 K W,Option.map_none,Instr.sliceAt,Sem.run_bind,run_underlying U,Result.andThen_ok,Instr.slice,J,hs,Sem.run_pure,hv,Nat.sub_zero]
section
variable {κ:Type} [DecidableEq κ] {ke:κ→Value} {ag:Bool} {b:Nat} {kvs:List (κ×α)} {kt et:TypeId}
theorem Ops.clearM {D:Array TypeId} (W:P.underlying T=some (.map kt et)) (h:D[0]? = some T) (hA:At m (OwnMap ke El ag b kvs) m' (OwnMap ke El ag b [])) (hx:ev E x=some (.map (some b)))
  (U:Ops P ops l n E (Sym w0 M I0 I m') Q):Ops P ops (⟨none,.call ⟨.builtin .clear,#[x],D⟩,ty,pos,af,none⟩ :: l) n E (Sym w0 M I0 I m) Q:=
 Ops.val0 rfl rfl (λc w ho V=>by
  obtain⟨r,h2,Z⟩:=hA.del;obtain⟨es,clock,⟨hE,O⟩,hs1⟩:=OwnMap.opn (V.del h2);have hp:=hs1.pto;have e0:(#[x].map c.eval) = #[.map (some b)]:=by simp[ho.eval hx]
  obtain⟨w',K,J⟩:=OwnMap.set (P:=P) (ke:=ke) (El:=El) (ag:=ag) (es':=#[]) (clock':=clock) (kvs:=([]:List (κ×α))) ⟨trivial,O.sub (List.nil_sublist _)⟩ hs1;refine⟨.tuple #[],w',?_,J.undel Z⟩;simp[execOp,resolve,e0,invoke,builtin,Builtin.clear_,h,run_underlying W,MapKept.run_getObj_map hp,K]) U
end
end Go.Fw
