/- The engine. -/
import Derived.Test.YtkbkaodgfedfmaaGreatFwF
namespace Go.Fw
open Go Go.RowKit
variable {w0 w:World} {M:Nat→Prop} {I0 I:IH} {m m':List HA}
variable {P:Program} {n:FrK} {E:CZ} {S:World→Prop} {Q:Exit→Act→World→Prop} {ops:Array Oper} {l:List Oper}
variable {d ty:Nat} {pos:String} {af:Array Edge} {T e:TypeId} {x y:Operand}
variable {α:Type} {El:EP α} {xs ys:List α} {a:Option Addr} {cap:Nat}
/-! ### Pure parts -/
variable {φ:IH→Value→List HA→Prop} {parts:List (Nat×Operand)} {len:Nat} {rs:List ResultVar} {fn:Func}
def slP (xs:List α) (lo hi:Int) (K:List α->Prop):Prop:=0<=lo∧lo<=hi∧hi<=(xs.length:Int)∧K ((xs.take hi.toNat).drop lo.toNat)
def nzP (b:Int) (K:Prop):Prop:=b≠0∧K
def nnP (b:Int) (K:Prop):Prop:=0<=b∧K
def mkP (B:Nat) (c:Int) (z:α) (K:List α->Prop):Prop:=0<=c∧c*B<=140737488355328∧K (List.replicate c.toNat z)
def DB {σ:Type} (m:(σ->Prop)->Prop) (k:σ->Prop):Prop:=m k
theorem CC {i:Int} {v:α} (h:xs[i.toNat]? = some v) (h0:0<=i):i<(xs.length:Int):=by have:=(List.getElem?_eq_some_iff.1 h).1; omega
theorem FN {i:Nat} {v:α} (h:xs[i]? = some v):xs≠[]:=λe=>by subst e; simp at h
theorem split {G:Prop} (b:Bool) (h1:b=true->G) (h0:b=false->G):G:=by cases b <;> simp_all
theorem Cod.joinQ {σ:Type} {c:Code} {D:(σ->Prop)->Prop} {k:σ->Prop} (U:DB D k) (J:σ->Act->World->Prop) (O:∀ k,D k->Cod P c n E S (Exit.then (λa w=>∃ s,k s∧J s a w) Q))
  (V:∀ s,k s->∀ a w,J s a w->Q .normal a w):Cod P c n E S Q:=
 λa w W K=>Code.wpIn_mono (λe a w q=>by cases e <;> first | exact q | exact(let ⟨s,hk,h⟩:=q; V s hk a w h)) (O k U a w W K)
inductive Pick:List HA→List HA→Prop
 | n {l:List HA}:Pick l []
 | c {l m r:List HA} {A:HA} (h:Del l A m) (k:Pick m r):Pick l (A :: r)
theorem AeO {l r:List HA} (hp:Pick l r):∀ {h:IH},QI l I h->QI r I h:=by
 induction hp with
 | n=>intros; trivial
 | c Z _ V=>
  intro h U;obtain⟨h1,h2,D,J,O,W,K⟩:=nC Z U;exact⟨h1,h2,D,J,O,W,V K⟩
theorem Sym.pick (h:Sym w0 M I0 I m w) (hp:Pick m m'):Sym w0 M I0 I m' w:=by obtain⟨J,hi,U,k,D,hk,O,K⟩:=h;exact⟨J,hi,U,k,AeO hp D,hk,O,K⟩
theorem Cod.ownF {c:Code} (U:Del m (OwnSl El T a cap xs) m') (k:(xs≠[]->∃ b,a=some ⟨b,0,none⟩)->Cod P c n E (Sym w0 M I0 I m) Q):Cod P c n E (Sym w0 M I0 I m) Q:=by
 intro c w O D;refine k (λh=>?_) c w O D;obtain⟨k1,J,_⟩:=(D.del U).get;rcases J with⟨_,K,_⟩ | ⟨b,_,V,_⟩
 . exact absurd K h
 . exact⟨b,V⟩
theorem Ops.ownNe (U:Del m (OwnSl El T a cap xs) m') (h:xs≠[]) (k:∀ b,a=some ⟨b,0,none⟩->Ops P ops l n E (Sym w0 M I0 I m) Q):Ops P ops l n E (Sym w0 M I0 I m) Q:=by
 intro c w O D;obtain⟨k1,J,_⟩:=(D.del U).get;rcases J with⟨_,K,_⟩ | ⟨b,_,V,_⟩
 . exact absurd K h
 . exact k b V c w O D
inductive jC (E:CZ) (s:Nat):Nat→List (Nat×Operand)→List Value→Prop
 | n {i:Nat}:jC E s i [] []
 | c {i:Nat} {x:Operand} {v:Value} {vs cs:List Value} {r:List (Nat×Operand)} (hx:ev E x=some v) (hv:cellsOf v=vs) (hl:vs.length=s) (k:jC E s (i+1) r cs):jC E s i ((i,x) :: r) (vs++cs)
theorem Ab5 {s:Nat} {ev':Operand->Value} (J:∀ x v,ev E x=some v->ev' x=v) {i:Nat} {cs:List Value} (h:jC E s i parts cs) :
  ∀ z:Array Value,z.size=i*s+parts.length*s->Instr.fill (λi=>some (i*s,s)) z (parts.map λp=>(p.1,ev' p.2))=some (z.toList.take (i*s)++cs).toArray:=by
 induction h with
 | n=>intro z D; simp at D; simp only[List.map_nil,Instr.fill,List.append_nil]; rw[List.take_of_length_le (by simp; omega)]
 | @c i x v vs cs r hx W Z k O=>
  intro z D;simp only[List.length_cons,Nat.add_mul,Nat.one_mul] at D;have V:(ev' x).cells=vs.toArray:=by rw[J x v hx,S6,W]
  simp only[List.map_cons,Instr.fill,V];rw[if_neg (by simp; omega)]
  have U:vs.toArray.zipIdx.foldl (λcs (p:Value×Nat)=>cs.setIfInBounds (i*s+p.2) p.1) z=(z.toList.take (i*s)++vs++z.toList.drop (i*s+vs.length)).toArray:=by rw[<-Array.foldl_toList,Array.toList_zipIdx,eW vs (i*s) 0 z (by omega)];simp
  rw[U,O _ (by simp[Nat.add_mul]; omega)];congr 2;have K:(i+1)*s=(z.toList.take (i*s)++vs).length:=by simp[Nat.add_mul,Z]; omega
  rw[K,List.take_left' rfl];simp
theorem Ops.buildSlice {s:Nat} {z:Value} {cs:List Value} (k:Nat) (W:P.underlying T=some (.slice e)) (V:∀ w,(sizeOf e).run P w=.ok s w) (hz:∀ w,(zeroValue e).run P w=.ok z w)
  (hk:k=parts.length) (J:Nat.ble (k*s) 16777216=true) (hp:jC E s 0 parts cs) (hb:Nat.blt d n.sz=true) (Z:fresh E d=true)
  (U:∀ b,Ops P ops l n ((d,.slice (some ⟨b,0,none⟩) k k) :: E) (Sym w0 M I0 I (pto b (.cells cs.toArray e) :: m)) Q) :
  Ops P ops (⟨some d,.buildSlice T k parts.toArray,ty,pos,af,none⟩ :: l) n E (Sym w0 M I0 I m) Q:=
 Ops.valx (λv w'=>∃ b,v=.slice (some ⟨b,0,none⟩) k k∧Sym w0 M I0 I (pto b (.cells cs.toArray e) :: m) w') rfl rfl
  (λc w K D=>⟨.slice (some ⟨w.heap.size,0,none⟩) k k,w.alloc (.cells cs.toArray e),by
   have hl:¬k*s > 16777216:=by have:=Nat.le_of_ble_eq_true J; omega
   have h:=λO:Array Value=>Ab5 (ev':=c.eval) (λx v hx=>K.eval hx) hp ((Array.range (k*s)).map (O[· % O.size]!)) (by simp[hk]);have e1:(Array.map (λ(x:Nat×Operand)=>(x.1,c.eval x.2)) parts.toArray).toList=parts.map λp=>(p.1,c.eval p.2):=by simp
   have e2:(Array.map (λx=>match x with | (i,x)=>(i,c.eval x)) parts.toArray).toList=parts.map λp=>(p.1,c.eval p.2):=e1;simp only[execOp,Instr.buildSlice,Sem.run_bind,run_underlying W,Result.andThen_ok,V,hl,if_false,e2];simp only[h];by_cases hks:k*s=0 <;> simp[hks,newRow,hz],_,rfl,D.alloc _⟩) hb Z
  (λv c w K ⟨b,hv,D⟩=>by subst hv; exact U b c w K D)
theorem Ops.pubB {b k:Nat} {cs:List Value} (hA:Del m (Fw.pto b (.cells cs.toArray e (0,0))) m') (hR:RepCs El I cs ys) (hk:k=ys.length) (O:∀ D,I.le D->RepSl El D (some ⟨b,0,none⟩) k ys->Ops P ops l n E (Sym w0 M I0 D m') Q) :
  Ops P ops l n E (Sym w0 M I0 I m) Q:=by
 intro c w Z U;obtain⟨D,q,h,ha,hq,K⟩:=(U.del hA).publish;refine O D h ⟨by omega,λi x hx=>?_⟩ c w Z K;obtain⟨J,W,g2⟩:=hR.2.1 i x hx;exact⟨b,0,J,rfl,⟨_,_,_,hq _ _ ha,λj v V=>by rw[Nat.zero_add]; simpa using g2 j v V⟩,El.mono h W⟩
theorem Ops.ownB {b k:Nat} {cs:List Value} (W:Del m (Fw.pto b (.cells cs.toArray e (0,0))) m') (D:RepCs El I cs ys) (hk:k=ys.length) (J:Ops P ops l n E (Sym w0 M I0 I (OwnSl El e (some ⟨b,0,none⟩) k ys :: m')) Q) :
  Ops P ops l n E (Sym w0 M I0 I m) Q:=
 Ops.pre (λ_ K=>(K.del W).weaken (B:=OwnSl El e (some ⟨b,0,none⟩) k ys) λq hq=>.inr ⟨b,_,rfl,hq,by omega,by simp[D.1,hk],λi x Z=>by obtain⟨h,U,V⟩:=D.2.1 i x Z;exact⟨h,U,λj v O=>by simpa using V j v O⟩⟩) J
theorem Ops.sliceV {lo hi mx:Option Operand} {vl Z O:Option Value} {L H k s:Nat} (hT:P.underlying T=some (.slice e)) (hs:∀ w,(sizeOf e).run P w=.ok s w) (hx:ev E x=some (.slice a k cap)) (hk:k=xs.length)
  (hc:xs.length<=cap) (hl:xE E lo=some vl) (hh:xE E hi=some Z) (hm:xE E mx=some O) (D:vl=none∧L=0∨∃ q i,vl=some (.int q i)∧0<=i∧i.toNat=L)
  (V:Z=none∧H=k∧O=none∨∃ q i,Z=some (.int q i)∧0<=i∧i.toNat=H) (hmx:O=none∨O=Z)
  (h1:L<=H) (h2:H<=xs.length) {cm:Nat} (h:cm=match O with | none=>cap | some _=>H) (hb:Nat.blt d n.sz=true) (hf:fresh E d=true)
  (k':Ops P ops l n ((d,.slice (if cm=L then a else a.map (·.add (L*s))) ((xs.take H).drop L).length (cm - L)) :: E) S Q) :
  Ops P ops (⟨some d,.slice T x lo hi mx,ty,pos,af,none⟩ :: l) n E S Q:=by
 subst hk;have hlen:((xs.take H).drop L).length=H - L:=by simp; omega
 rw[hlen] at k';refine Ops.val rfl rfl (λc w ho _=>?_) hb hf k'
 have hbd:(Instr.sliceBounds true xs.length cap vl Z O).run P w=.ok (L,H,cm) w:=by
  simp only[Instr.sliceBounds];rcases hmx with rfl | rfl
  . simp only at h; subst h;rcases V with⟨rfl,rfl,_⟩ | ⟨q,i,rfl,h3,W⟩ <;> rcases D with⟨rfl,rfl⟩ | ⟨q',U,rfl,K,J⟩
    . simp
    . have:U<=(xs.length:Int):=by omega
      simp[Instr.sliceBound,asIntOf,K,this,J]
    . have:i<=(cm:Int):=by omega
      simp[Instr.sliceBound,asIntOf,h3,this,W]
    . have g1:i<=(cm:Int):=by omega
      have g2:U<=(H:Int):=by omega
      simp[Instr.sliceBound,asIntOf,h3,g1,K,g2,W,J]
  . rcases V with⟨rfl,rfl,_⟩ | ⟨q,i,rfl,h3,W⟩
    . simp only at h; subst h;rcases D with⟨rfl,rfl⟩ | ⟨q',U,rfl,K,J⟩
      . simp
      . have:U<=(xs.length:Int):=by omega
        simp[Instr.sliceBound,asIntOf,K,this,J]
    . simp only at h; subst h;have g0:i<=(cap:Int):=by omega
      rcases D with⟨rfl,rfl⟩ | ⟨q',U,rfl,K,J⟩
      . have:i<=(cm:Int):=by omega
        simp[Instr.sliceBound,asIntOf,h3,g0,this,W]
      . have g1:i<=(cm:Int):=by omega
        have g2:U<=(cm:Int):=by omega
        simp[Instr.sliceBound,asIntOf,h3,g0,g1,K,g2,W,J]
 simp only[execOp,ho.eval hx,N2 ho hl,N2 ho hh,N2 ho hm,Instr.sliceAt,Sem.run_bind,run_underlying hT,Result.andThen_ok,Instr.slice,hbd,hs,Sem.run_pure]
theorem RepSl.sliceM (h:RepSl El I a cap xs) {L H cm:Nat} (V:L<=H) (O:H<=xs.length) (U:cm=cap∨cm=H) :
  RepSl El I (if cm=L then a else a.map (·.add (L*El.sz))) (cm - L) ((xs.take H).drop L):=by
 have hc:=h.1;refine⟨by simp; omega,λi x J=>?_⟩;have W:=(h.slice V O).2 i x J;have D:(xs.take H).drop L≠[]:=λe=>by rw[e] at J; simp at J
 have K:L<H:=by have:=List.length_pos_iff.2 D;simp at this; omega
 rw[if_neg (by omega)]
 rwa [if_neg (by omega)] at W
theorem Ops.ixa0 {k s b:Nat} {q:IntKind} {i:Int} (J:P.underlying T=some (.slice e)) (D:∀ w,(sizeOf e).run P w=.ok s w) (V:ev E x=some (.slice (some ⟨b,0,none⟩) k cap))
 (U:ev E y=some (.int q i)) (W:0<=i) (hk:i<k) (K:Nat.blt d n.sz=true) (O:fresh E d=true) (h:Ops P ops l n ((d,.pointer (some ⟨b,i.toNat*s,none⟩)) :: E) S Q) :
 Ops P ops (⟨some d,.indexAddr T x y,ty,pos,af,none⟩ :: l) n E S Q:=Ops.ixa (off:=0) J D V rfl U W hk K O (by rw[Nat.zero_add]; exact h)
theorem Ops.ixArr {s b off o:Nat} {q:IntKind} {i:Nat} (K:P.underlying T=some (.array len e)) (J:∀ w,(sizeOf e).run P w=.ok s w) (hx:ev E x=some (.pointer (some ⟨b,off,none⟩)))
  (Z:ev E y=some (.int q (i:Int))) (hk:i<len) (U:off+i*s=o) (V:Nat.blt d n.sz=true) (O:fresh E d=true) (D:Ops P ops l n ((d,.pointer (some ⟨b,o,none⟩)) :: E) S Q) :
  Ops P ops (⟨some d,.indexAddr T x y,ty,pos,af,none⟩ :: l) n E S Q:=
 Ops.val rfl rfl (λc w h _=>by
  have W:(⟨b,off,none⟩:Addr).add (i*s)=⟨b,o,none⟩:=by rw[<-U]; unfold Addr.add; split <;> simp_all
  have h2:(0:Int)<=(i:Int):=by omega
  simp[execOp,Instr.indexAt,Instr.sureAddr,h.eval hx,h.eval Z,asIntOf,run_underlying K,h2,hk,J,W]) V O D
theorem Ops.index1 {s:Nat} {q:IntKind} {i:Nat} {cs:List Value} {v:Value} (O:P.underlying T=some (.array len e)) (J:∀ w,(sizeOf e).run P w=.ok s w) (hA:∀ w,(isAgg e).run P w=.ok false w) (hx:ev E x=some (.agg cs.toArray))
  (W:ev E y=some (.int q (i:Int))) (hk:i<len) (K:cs[i*s]? = some v) (V:Nat.blt d n.sz=true) (U:fresh E d=true) (D:Ops P ops l n ((d,v) :: E) S Q) :
  Ops P ops (⟨some d,.index T x y,ty,pos,af,none⟩ :: l) n E S Q:=
 Ops.val rfl rfl (λc w h _=>by
  have Z:(0:Int)<=(i:Int):=by omega
  simp[execOp,Instr.index,h.eval hx,h.eval W,asIntOf,run_underlying O,Z,hk,J,part,hA,K]) V U D
theorem Ops.make {z:Value} {zv:α} {i:TypeInfo} {q q':IntKind} {c:Int} (B:Nat) (hT:P.underlying T=some (.slice e)) (hi:P.info? e=some i) (hsz:i.size=El.sz) (hB:i.bytes=B) (hz:i.zero=some z) (hr:El.rep I (cellsOf z) zv)
   (hx:ev E x=some (.int q c)) (hy:ev E y=some (.int q' c)) (h0:0<=c) (h1:c*B<=140737488355328) (hB0:Nat.blt 0 B=true) (hb:Nat.blt d n.sz=true) (hf:fresh E d=true)
   (k:∀ b,Ops P ops l n ((d,.slice (some ⟨b,0,none⟩) (List.replicate c.toNat zv).length c.toNat) :: E) (Sym w0 M I0 I (OwnSl El e (some ⟨b,0,none⟩) c.toNat (List.replicate c.toNat zv) :: m)) Q) :
   Ops P ops (⟨some d,.makeSlice T x y,ty,pos,af,none⟩ :: l) n E (Sym w0 M I0 I m) Q:=by
 have hB1:0<B:=by simpa[Nat.blt_eq] using hB0
 have hc:c<=140737488355328:=by have:c*1<=c*(B:Int):=Int.mul_le_mul_of_nonneg_left (by omega) h0;omega
 have hw:IntKind.i64.wrap c=c:=by
   have e1:IntKind.i64.wrap c=(let m:=c % 18446744073709551616; if m>=9223372036854775808 then m - 18446744073709551616 else m):=by simp[IntKind.wrap,IntKind.bits,IntKind.signed]
   rw[e1]; simp only[]; omega
 have K:z.cells.size=El.sz:=by rw[S6]; simpa using El.len hr
 refine Ops.valx (λv w'=>∃ b,v=.slice (some ⟨b,0,none⟩) (List.replicate c.toNat zv).length c.toNat∧Sym w0 M I0 I (OwnSl El e (some ⟨b,0,none⟩) c.toNat (List.replicate c.toNat zv) :: m) w') rfl rfl
   (λcc w Z h=>⟨.slice (some ⟨w.heap.size,0,none⟩) (List.replicate c.toNat zv).length c.toNat,w.alloc (.cells ((Array.range (c.toNat*El.sz)).map ((if c.toNat*El.sz=0 then #[] else z.cells)[· % (if c.toNat*El.sz=0 then #[] else z.cells).size]!)) e),?_,_,rfl,?_⟩) hb hf
   (λv cc w Z ⟨b,hv,h⟩=>by subst hv; exact k b cc w Z h)
 . have hso:∀ w,(sizeOf e).run P w=.ok El.sz w:=λw=>by simp[sizeOf,typeInfo,hi,hsz]
   have O:∀ w,(typeInfo e).run P w=.ok i w:=λw=>by simp[typeInfo,hi]
   have hzv:∀ w,(zeroValue e).run P w=.ok z w:=λw=>by simp[zeroValue,O,hz]
   have h2:(B:Int)*c<=140737488355328:=by rw[Int.mul_comm]; exact h1
   have g2:¬((c<0∨281474976710656<(B:Int)*c)∨c<0):=by omega
   simp only[execOp,Instr.makeSlice,Z.eval hx,Z.eval hy,Sem.run_bind,run_underlying hT,Result.andThen_ok,asInt,asIntOf,Sem.run_pure,O,hB,hw];by_cases hcz:c.toNat*El.sz=0 <;> simp[newRow,g2,hso,hzv,hcz]
 . refine(h.alloc _).weaken λq hq=>.inr ⟨_,_,rfl,hq,by simp,by simp,λi' x' D=>?_⟩;have J:=(List.getElem?_eq_some_iff.1 D).1;have hxz:x'=zv:=by rw[List.getElem?_replicate] at D; split at D <;> simp_all
   subst hxz;refine⟨_,hr,λj v hj=>?_⟩;have U:j<El.sz:=by rw[<-El.len hr]; exact(List.getElem?_eq_some_iff.1 hj).1
   rw[List.length_replicate] at J;have hm2:(i'+1)*El.sz<=c.toNat*El.sz:=Nat.mul_le_mul_right _ J;rw[Nat.add_mul,Nat.one_mul] at hm2;have hne:¬c.toNat*El.sz=0:=by omega
   simp only[hne,if_false,Array.getElem?_map,Array.getElem?_range];rw[if_pos (by omega)];have W:(i'*El.sz+j) % El.sz=j:=by rw[Nat.add_comm,Nat.add_mul_mod_self_right]; exact Nat.mod_eq_of_lt U
   simp only[Option.map_some,K,W,Option.some.injEq];have V:j<z.cells.size:=by rw[K]; exact U
   have e4:z.cells=(cellsOf z).toArray:=S6 z;rw[getElem!_pos z.cells j V];have:z.cells[j]? = some v:=by rw[e4]; simpa using hj
   rw[Array.getElem?_eq_getElem V] at this;exact Option.some.inj this
theorem Ops.sliceW {lo hi mx:Option Operand} {J D h:Option Value} {L H k s:Nat} {a':Option Addr} {c':Nat} (hT:P.underlying T=some (.slice e)) (hs:∀ w,(sizeOf e).run P w=.ok s w) (hx:ev E x=some (.slice a k cap)) (hk:k=xs.length)
  (hc:xs.length<=cap) (hl:xE E lo=some J) (hh:xE E hi=some D) (hm:xE E mx=some h) (O:J=none∧L=0∨∃ q i,J=some (.int q i)∧0<=i∧i.toNat=L)
  (W:D=none∧H=k∧h=none∨∃ q i,D=some (.int q i)∧0<=i∧i.toNat=H) (V:h=none∨h=D)
  (h1:L<=H) (h2:H<=xs.length) {cm:Nat} (Z:cm=match h with | none=>cap | some _=>H) (U:(if cm=L then a else a.map (·.add (L*s)))=a') (K:cm - L=c') (hb:Nat.blt d n.sz=true) (hf:fresh E d=true)
  (k':Ops P ops l n ((d,.slice a' ((xs.take H).drop L).length c') :: E) S Q) :
  Ops P ops (⟨some d,.slice T x lo hi mx,ty,pos,af,none⟩ :: l) n E S Q:=
 Ops.sliceV hT hs hx hk hc hl hh hm O W V h1 h2 Z hb hf (by rw[U,K]; exact k')
theorem RepSl.sliceW (h:RepSl El I a cap xs) (L H cm:Nat) (U:L<=H) (O:H<=xs.length) (D:cm=cap∨cm=H) :
 ∃ K J,(if cm=L then a else a.map (·.add (L*El.sz)))=K∧cm - L=J∧RepSl El I K J ((xs.take H).drop L):=⟨_,_,rfl,rfl,h.sliceM U O D⟩
theorem CT {z:Nat} {vs:List Value} (U:fn.results=rs.toArray) (h:ResR P E m rs vs) (D:I0.le I) (hp:Pick m m') (K:φ I (tup vs) m') :
 ∀ c w,Ok ⟨z,[],none⟩ E c->Sym w0 M I0 I m w->J7 P fn (S5 w0 M I0 φ) .ret c w:=λ_ _ O J=>AgG O h U J λ_ J=>⟨_,I,m',rfl,D,K,J.pick hp⟩
theorem Al4 {z:Nat} {K:List Nat} {O:List HA} (V:Del O (MH K) m) {vs:List Value} (Z:fn.results=rs.toArray) (h:ResR P E m rs vs) (D:I0.le I) (hp:Pick m m') (U:φ I (tup vs) m') :
 ∀ c w,Ok ⟨z,K,none⟩ E c->Sym w0 M I0 I O w->J7 P fn (S5 w0 M I0 φ) .ret c w:=λ_ _ W J=>AgF V W h Z J λ_ J=>⟨_,I,m',rfl,D,U,J.pick hp⟩
def uI (P:Program) (f:FuncId) (vs:List Value) (I:IH) (φ:IH->Value->List HA->Prop):Prop:=Fun P f vs.toArray I [] φ
theorem Ops.callO {g:FuncId} {args:List Operand} {vs:List Value} {J:Array TypeId} (W:∀ as w,(callFunc g as).run P w=.ok (.enter g as) w)
  (V:xG E args=some vs) (U:uI P g vs I φ) (O:Nat.blt d n.sz=true) (h:fresh E d=true)
  (k:∀ v D K,I.le D->φ D v K->Ops P ops l n ((d,v) :: E) (Sym w0 M I0 D (K++m)) Q) :
  Ops P ops (⟨some d,.call ⟨.value (.func g),args.toArray,J⟩,ty,pos,af,none⟩ :: l) n E (Sym w0 M I0 I m) Q:=
 Ops.callF (mf:=[]) (mr:=m) W V U O h k
theorem HG {z:Nat} {vs:List Value} (U:fn.results=rs.toArray) (h:ResR P E m rs vs) (D:I0.le I) (hp:Pick m m') (K:φ I (tup vs) m') :
 ∀ c w,Ok ⟨z,[],none⟩ E c->Sym w0 M I0 I m w->J7 P fn (S5 w0 M I0 φ) .normal c w:=λ_ _ O J=>AgG O h U J λ_ J=>⟨_,I,m',rfl,D,K,J.pick hp⟩
theorem Ops.reat {A B:HA} (J:At m A m' B) (h:A=B) (k:Ops P ops l n E (Sym w0 M I0 I m') Q):Ops P ops l n E (Sym w0 M I0 I m) Q:=
 Ops.pre (λ_ D=>D.reAt J λ_ D=>h▸D) k
inductive jD (E:CZ) (s:Nat):List Value→List (Nat×Operand)→List Value→Prop
 | n {z:List Value}:jD E s z [] z
 | c {z z' cs vs:List Value} {i:Nat} {x:Operand} {r:List (Nat×Operand)} {v:Value} (hx:ev E x=some v) (hv:cellsOf v=vs) (hl:vs.length=s) (hp:PutC z (i*s) vs z') (k:jD E s z' r cs):jD E s z ((i,x) :: r) cs
theorem AgH {s:Nat} {ev':Operand->Value}:∀ {z:List Value} {r:List (Nat×Operand)} {cs:List Value},jD E s z r cs->(∀ x v,ev E x=some v->ev' x=v) ->
  Instr.fill (λi=>some (i*s,s)) z.toArray (r.map λp=>(p.1,ev' p.2))=some cs.toArray:=by
 intro z r cs h
 induction h with
 | n=>intros; rfl
 | @c z U cs vs i x r v hx Z hl hp k O=>
  intro J;obtain⟨D,K⟩:=hp.eq;have W:(ev' x).cells=vs.toArray:=by rw[J x v hx,S6,Z]
  simp only[List.map_cons,Instr.fill,W];rw[if_neg (by simp; omega)]
  have V:vs.toArray.zipIdx.foldl (λcs (p:Value×Nat)=>cs.setIfInBounds (i*s+p.2) p.1) z.toArray=U.toArray:=by rw[<-Array.foldl_toList,Array.toList_zipIdx];rw[eW vs (i*s) 0 z.toArray (by simp; omega)];simp[D]
  rw[V];exact O J
theorem Ops.buildArr {s:Nat} {z:List Value} {cs:List Value} (W:∀ w,(zeroValue T).run P w=.ok (.agg z.toArray) w) (J:P.underlying T=some (.array len e))
  (D:∀ w,(sizeOf e).run P w=.ok s w) (O:jD E s z parts cs) (U:Nat.blt d n.sz=true) (K:fresh E d=true) (k:Ops P ops l n ((d,.agg cs.toArray) :: E) S Q) :
  Ops P ops (⟨some d,.build T parts.toArray,ty,pos,af,none⟩ :: l) n E S Q:=
 Ops.val rfl rfl (λa w V _=>by
  have h:=AgH (ev':=a.eval) O (λx v Z=>V.eval Z);simp only[execOp,Instr.build,Sem.run_bind,W,Result.andThen_ok,run_underlying J,Value.cells,D];have e:(Array.map (λ(x:Nat×Operand)=>(x.1,a.eval x.2)) parts.toArray).toList=parts.map λp=>(p.1,a.eval p.2):=by simp
  rw[show(Array.map (λx=>match x with | (i,x)=>(i,a.eval x)) parts.toArray).toList=parts.map λp=>(p.1,a.eval p.2) from e,h];simp) U K k
end Go.Fw
