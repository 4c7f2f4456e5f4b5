/- The engine. -/
import Derived.Test.YtkbkaodgfedfmaaGreatFwM
namespace Go.Fw
set_option linter.unusedSimpArgs false
set_option linter.unusedVariables false
open Go Go.RowKit
variable {w0 w:World} {M:Nat→Prop} {I0 I:IH} {m m':List HA}
variable {P:Program} {n:FrK} {E:CZ} {Q:Exit→Act→World→Prop} {ops:Array Oper} {l:List Oper}
variable {d ty:Nat} {pos:String} {af:Array Edge} {T e:TypeId} {x y z:Operand}
variable {α:Type} {El:EP α} {xs ys:List α} {a:Option Addr} {cap:Nat}
/-! ### Elements of own slices that lead on -/
variable {T':TypeId} {m2:List HA} {sT:TypeId} {zc:Value}
theorem OwnSl.els {b:Nat} (h:Sym w0 M I0 I m w) (Z:Del m (OwnSl El T' (some ⟨b,0,none⟩) cap xs) m') {i:Nat} {v:α} (hi:xs[i]? = some v) :
   ∃ cs,El.rep I cs v∧∀ j u,cs[j]? = some u->w.cell? ⟨b,i*El.sz+j,none⟩=some u:=by
 obtain⟨k1,V,hk⟩:=(h.del Z).get;rcases V with⟨D,_⟩ | ⟨b',c,D,W,h3,h4,U⟩
 . cases D
 . cases D;obtain⟨cs,J,O⟩:=U i v hi;exact⟨cs,J,λj u K=>by rw[LU (hk _ _ W)]; exact O j u K⟩
theorem Ops.loEW {b o i O:Nat} {v:α} (W:∀ w,(isAgg T).run P w=.ok true w) (V:∀ w,(sizeOf T).run P w=.ok O w) (hA:Del m (OwnSl El T' (some ⟨b,0,none⟩) cap xs) m') (hi:xs[i]? = some v)
  (hx:ev E x=some (.pointer (some ⟨b,o,none⟩))) (J:o=i*El.sz) (hl:El.sz=O) (hb:Nat.blt d n.sz=true) (Z:fresh E d=true) (k:∀ cs,El.rep I cs v->Ops P ops l n ((d,.agg cs.toArray) :: E) (Sym w0 M I0 I m) Q) :
  Ops P ops (⟨some d,.load T x,ty,pos,af,none⟩ :: l) n E (Sym w0 M I0 I m) Q:=
 Ops.valx (λu w'=>(∃ cs,u=.agg cs.toArray∧El.rep I cs v)∧Sym w0 M I0 I m w') rfl rfl (λc w U h=>by subst J;obtain⟨cs,D,g2⟩:=OwnSl.els h hA hi;refine⟨.agg cs.toArray,w,?_,⟨cs,rfl,D⟩,h⟩;simp[execOp,U.eval hx,JY (P:=P) W V (El.len D |>.trans hl) (λi' v' K=>g2 i' v' K)]) hb Z (λu c w J ⟨⟨cs,hu,D⟩,h⟩=>by subst hu; exact k cs D c w J h)
def YC (a:Option Addr) (cap L s:Nat):Option Addr:=if cap=L then a else a.map (·.add (L*s))
theorem OwnSl.take {k:IH} (h:(OwnSl El T a cap xs).holds I k) (H:Nat):(OwnSl El T a cap (xs.take H)).holds I k:=by
 rcases h with⟨K,J,O⟩ | ⟨b,c,K,J,O,U,V⟩
 . exact .inl ⟨K,by rw[J]; simp,O⟩
 . refine .inr ⟨b,c,K,J,by simp; omega,U,λi x D=>V i x ?_⟩;rw[List.getElem?_take] at D;split at D
   . exact D
   . cases D
theorem Sym.takeSl (h:Sym w0 M I0 I m w) {H:Nat} (J:At m (OwnSl El T a cap xs) m' (OwnSl El T a cap (xs.take H))):Sym w0 M I0 I m' w:=
 Sym.reAt J h λ_ D=>D.weaken λ_ hk=>OwnSl.take hk H
theorem Ops.takeSl (H:Nat) (D:At m (OwnSl El T a cap xs) m' (OwnSl El T a cap (xs.take H))) (k:Ops P ops l n E (Sym w0 M I0 I m') Q):Ops P ops l n E (Sym w0 M I0 I m) Q:=Ops.pre (λ_ h=>h.takeSl D) k
theorem jE (a:Option Addr) (cap s:Nat):YC a cap 0 s=a:=by
 unfold YC;split
 . rfl
 . cases a with
   | none=>rfl
   | some p=>simp only[Option.map_some,Nat.zero_mul,Addr.add]; split <;> simp_all
theorem Ops.ownCap (U:Del m (OwnSl El T a cap xs) m') (k:xs.length<=cap->Ops P ops l n E (Sym w0 M I0 I m) Q):Ops P ops l n E (Sym w0 M I0 I m) Q:=by
 intro c w O D;refine k ?_ c w O D;obtain⟨k1,J,_⟩:=(D.del U).get;rcases J with⟨_,K,h⟩ | ⟨b,_,_,_,h,_⟩
 . rw[K,h]; exact Nat.le_refl _
 . exact h
theorem Cod.ownCap {c:Code} (U:Del m (OwnSl El T a cap xs) m') (k:xs.length<=cap->Cod P c n E (Sym w0 M I0 I m) Q):Cod P c n E (Sym w0 M I0 I m) Q:=by
 intro c w O D;refine k ?_ c w O D;obtain⟨k1,J,_⟩:=(D.del U).get;rcases J with⟨_,K,h⟩ | ⟨b,_,_,_,h,_⟩
 . rw[K,h]; exact Nat.le_refl _
 . exact h
theorem Ops.sliceOm {S:World->Prop} {lo hi mx:Option Operand} {q K h:IntKind} {i j t:Int} {k s:Nat} (U:P.underlying T=some (.slice e)) (hs:∀ w,(sizeOf e).run P w=.ok s w) (hx:ev E x=some (.slice a k cap))
   (hl:xE E lo=some (some (.int q i))) (Z:xE E hi=some (some (.int K j))) (hm:xE E mx=some (some (.int h t))) (h0:0<=i) (h1:i<=j) (h2:j<=t) (h3:t<=cap) (hb:Nat.blt d n.sz=true) (V:fresh E d=true)
   (O:∀ v,Ops P ops l n ((d,v) :: E) S Q):Ops P ops (⟨some d,.slice T x lo hi mx,ty,pos,af,none⟩ :: l) n E S Q:=by
 have J:∀ w,(Instr.sliceBounds true k cap (some (.int q i)) (some (.int K j)) (some (.int h t))).run P w=.ok (i.toNat,j.toNat,t.toNat) w:=by
   intro w;have g0:0<=t:=by omega
   have g1:(0:Int)<=j:=by omega
   have W:j<=max t 0:=by omega
   have g3:i<=max j 0:=by omega
   simp[Instr.sliceBounds,Instr.sliceBound,asIntOf,h0,g0,h3,g1,W,g3]
 refine Ops.valx (λ_ w'=>S w') rfl rfl (λc w D hw=>⟨.slice (if t.toNat=i.toNat then a else a.map (·.add (i.toNat*s))) (j.toNat - i.toNat) (t.toNat - i.toNat),w,?_,hw⟩) hb V (λv=>O v)
 . simp only[execOp,D.eval hx,N2 D hl,N2 D Z,N2 D hm,Instr.sliceAt,Sem.run_bind,run_underlying U,Result.andThen_ok,Instr.slice,J,hs,Sem.run_pure]
theorem Ops.sliceO {lo hi:Option Operand} {O U:Option Value} {L H k s:Nat} (hT:P.underlying T=some (.slice e)) (hs:∀ w,(sizeOf e).run P w=.ok s w) (hx:ev E x=some (.slice a k cap)) (hk:k=xs.length)
  (hA:Del m (OwnSl El T' a cap xs) m') (hl:xE E lo=some O) (hh:xE E hi=some U) (D:O=none∧L=0∨∃ q i,O=some (.int q i)∧0<=i∧i.toNat=L)
  (K:U=none∧H=k∨∃ q i,U=some (.int q i)∧0<=i∧i.toNat=H) (h1:L<=H) (J:H<=xs.length) (hb:Nat.blt d n.sz=true) (hf:fresh E d=true)
  (Z:Ops P ops l n ((d,.slice (YC a cap L s) (H - L) (cap - L)) :: E) (Sym w0 M I0 I m) Q) :
  Ops P ops (⟨some d,.slice T x lo hi none,ty,pos,af,none⟩ :: l) n E (Sym w0 M I0 I m) Q:=by
 subst hk;refine Ops.val rfl rfl (λc w W h=>?_) hb hf Z;obtain⟨k1,ha,_⟩:=(h.del hA).get
 have hc:xs.length<=cap:=by
  rcases ha with⟨_,J,V⟩ | ⟨b,_,_,_,V,_⟩
  . rw[J,V]; exact Nat.le_refl _
  . exact V
 have hr:=nD (P:=P) (a:=a) hT hs h1 J hc D K w;simp only[execOp,W.eval hx,N2 W hl,N2 W hh,Option.map_none,hr,Sem.run_bind,Sem.run_pure,Result.andThen_ok];rfl
theorem Ops.sliceTail {lo hi:Option Operand} {L N k s:Nat} {q V:IntKind} {i j:Int} (hT:P.underlying T=some (.slice e)) (hs:∀ w,(sizeOf e).run P w=.ok s w) (hx:ev E x=some (.slice a k cap))
  (hl:xE E lo=some (some (.int q i))) (hh:xE E hi=some (some (.int V j))) (h:0<=i) (K:i.toNat=L) (J:0<=j) (U:j.toNat=N) (h1:L<=N) (h2:N<=cap) (hb:Nat.blt d n.sz=true) (hf:fresh E d=true) {S:World->Prop}
  (Z:Ops P ops l n ((d,.slice (YC a cap L s) (N - L) (cap - L)) :: E) S Q) :
  Ops P ops (⟨some d,.slice T x lo hi none,ty,pos,af,none⟩ :: l) n E S Q:=by
 refine Ops.val rfl rfl (λc w D W=>?_) hb hf Z
 have O:(Instr.sliceBounds true k cap (some (.int q i)) (some (.int V j)) none).run P w=.ok (L,N,cap) w:=by
  have g1:j<=(cap:Int):=by omega
  have g2:i<=(N:Int):=by omega
  simp[Instr.sliceBounds,Instr.sliceBound,asIntOf,h,J,g1,U,g2,K]
 simp only[execOp,D.eval hx,N2 D hl,N2 D hh,Option.map_none,Instr.sliceAt,Sem.run_bind,run_underlying hT,Result.andThen_ok,Instr.slice,O,hs,Sem.run_pure];rfl
section
variable {enc:α→List Value} {s:Nat} {he:∀ x,(enc x).length=s∧N1 (enc x)=true}
theorem Sym.appendDel {ty':TypeId} {r:List HA} {B:Nat} {i:TypeInfo} (h:Sym w0 M I0 I (OwnSl (KK s enc he) e a cap xs :: r) w)
   (hT:P.underlying sT=some (.slice e)) (hi:P.info? e=some i) (hsz:i.size=s) (hB:i.bytes=B) (hz:i.zero=some zc) (hzc:zc.cells.size=s) {L H:Nat} (h1:L<=H) (h2:H<=xs.length) :
   ∃ w',(Builtin.append_ #[sT,sT] ty' #[.slice a L cap,.slice (YC a cap H s) (xs.length - H) (cap - H)]).run P w=.ok (.slice a (xs.take L++xs.drop H).length cap) w'∧Sym w0 M I0 I (OwnSl (KK s enc he) e a cap (xs.take L++xs.drop H) :: r) w':=by
 obtain⟨k1,ha,hk1⟩:=h.get
 have hc:xs.length<=cap:=by
   rcases ha with⟨_,h2,h3⟩ | ⟨b,_,_,_,h3,_⟩
   . rw[h2,h3]; exact Nat.le_refl _
   . exact h3
 have hR:RepSl (KK s enc he) (hp w) a cap xs:=AgI ⟨k1,(OwnSl (KK s enc he) e a cap xs).mono h.imm (IH.le.refl _) ha,hk1⟩;have hR2:=hR.slice h2 (Nat.le_refl _);rw[List.take_length] at hR2;have hst:Sym w (λb=>(λ_=>none:IH) b≠none) (hp w) (hp w) [] w:=Fun.start (IH.le.refl _) trivial (λ_ _ x=>nomatch x) (λ_=>.inr rfl);obtain⟨hv,src,U,hs2⟩:=Src.imm (P:=P) (m:=[]) (w0:=w) (M:=λb=>(λ_=>none:IH) b≠none) (I0:=hp w) (k:=xs.length - H) hR2 (by simp);have J:(xs.drop H).length=xs.length - H:=by simp
 have hs1':RepCs (KK s enc he) I src (xs.drop H):=⟨U.1,U.2.1,U.2.2⟩;have W:(xs.take L).length=L:=by rw[List.length_take]; omega
 have D:(xs.take L).length+(xs.drop H).length<=cap:=by rw[W,J]; omega
 have hsm:Sym w0 M I0 I (OwnSl (KK s enc he) e a cap (xs.take L) :: r) w:=h.weaken λ_ hk=>OwnSl.take hk L;obtain⟨kk,ha',_⟩:=hsm.get;have hrun:=hs2 w hst
 -- in place
 rcases ha with⟨g1,g2,g3⟩ | ⟨b,c,g1,g2,g3,g4,g5⟩
 . subst g1 g2 g3;have hL:L=0:=by simp at h2; omega
   have hH:H=0:=by simpa using h2
   subst hL hH;refine⟨w,?_,?_⟩
   . have:=LV (P:=P) (w:=w) (w':=w) (ty':=ty') (a:=none) (cap:=0) (k:=0) (kv:=0) (cv:=0) (bv:=none) (src:=#[]) (s:=s) hT hT (λw=>by simp[sizeOf,typeInfo,hi,hsz]) (by omega) (by simp[Builtin.firstCells]) (λp hp=>by cases hp) (λ_=>rfl);simpa[YC] using this
   . simpa using h
 . subst g1;have hso:∀ w,(sizeOf e).run P w=.ok s w:=λw=>by simp[sizeOf,typeInfo,hi,hsz]
   obtain⟨hb,himm,hn,q,⟨q1,q2,hd',hl1,hl2,hq,hs'⟩,hkk,hdj,hm⟩:=hsm;rcases hq with⟨h1',_⟩ | ⟨b',O,h1',h2',h3',h4',h5'⟩
   . cases h1'
   cases h1';have hpt:Sym w0 M I0 I (Fw.pto b (.cells O e (0,0)) :: r) w:=⟨hb,himm,hn,q,⟨q1,q2,hd',hl1,hl2,h2',hs'⟩,hkk,hdj,hm⟩;have hmul:L*s+(xs.drop H).length*s<=cap*s:=by rw[<-Nat.add_mul]; exact Nat.mul_le_mul_right _ (by rw[W] at D; exact D)
   have hsl:src.length=(xs.drop H).length*s:=hs1'.1;have hr:=run_storeCells_at (P:=P) b (L*s) e src 0 O w hpt.pto (by rw[hsl]; show _<=O.size; rw[h4']; exact hmul) (VI U.2.2);have e1:(⟨b,0,none⟩:Addr).add (L*s)=⟨b,L*s,none⟩:=by unfold Addr.add; split <;> simp_all
   have V:=hrun w rfl;rw[J] at V;refine⟨w.setRow b (O.toList.take (L*s+0)++src++O.toList.drop (L*s+0+src.length)).toArray,?_,?_⟩
   . have:=LV (P:=P) (w:=w) (ty':=ty') (a:=some ⟨b,0,none⟩) (cap:=cap) (k:=L) (kv:=xs.length - H) (cv:=cap - H) (bv:=YC (some ⟨b,0,none⟩) cap H s) (src:=src.toArray) (s:=s) hT hT hso (by rw[W,J] at D; exact D) V (λp hp=>by cases hp; rw[e1]; exact hr) (λh=>by cases h);rw[this]; simp only[List.length_append,W,J]
   . have hup:=hpt.upd (o':=.cells (O.toList.take (L*s+0)++src++O.toList.drop (L*s+0+src.length)).toArray e (0,0)) (w':=w.setRow b _) rfl rfl rfl rfl (by simp[World.setRow]) (λq hq=>Fw.setRow_other hq) (setRow_heap w b _ _ e _ hpt.pto);refine hup.weaken λq hq=>.inr ⟨b,_,rfl,hq,by rw[List.length_append]; exact D,?_,?_⟩
     . have K:O.size=cap*s:=h4';simp only[List.size_toArray,List.length_append,List.length_take,List.length_drop,Array.length_toList,hsl,K];show _=cap*s;rw[J] at hmul;rw[Nat.min_eq_left (by omega)];omega
     . intro Z x2 hx2;simp only[Nat.add_zero,List.getElem?_toArray];have K:O.size=cap*s:=h4';rcases Nat.lt_or_ge Z L with h6 | h6
       . rw[List.getElem?_append_left (by omega)] at hx2;obtain⟨cs,g3,g4⟩:=h5' Z x2 hx2;refine⟨cs,g3,λj u hj=>?_⟩
         have hjl:j<s:=by have h0:cs.length=s:=(KK s enc he).len g3;have h1:=(List.getElem?_eq_some_iff.1 hj).1;omega
         have hm2:(Z+1)*s<=L*s:=Nat.mul_le_mul_right _ h6;rw[Nat.add_mul,Nat.one_mul] at hm2;have:=g4 j u hj;rw[<-Array.getElem?_toList] at this;have this':O.toList[Z*s+j]? = some u:=this;have hle:L*s<=O.toList.length:=by simp[K]; omega
         show(_++_++_)[Z*s+j]? = _;rw[List.append_assoc,List.getElem?_append_left (by rw[List.length_take]; omega),List.getElem?_take,if_pos (by omega),this']
       . rw[List.getElem?_append_right (by omega)] at hx2;obtain⟨cs,g3,g4⟩:=U.2.1 _ x2 hx2;refine⟨cs,g3,λj u hj=>?_⟩;have h7:=g4 j u hj;have h8:=(List.getElem?_eq_some_iff.1 h7).1;rw[W] at h7 h8;have e3:Z*s=L*s+(Z - L)*s:=by rw[<-Nat.add_mul]; congr 1; omega
         have h7':src[(Z - L)*s+j]? = some u:=h7;have h8':(Z - L)*s+j<src.length:=h8;have hle:L*s<=O.toList.length:=by simp[K]; omega
         show(_++_++_)[Z*s+j]? = _;rw[List.append_assoc,List.getElem?_append_right (by rw[List.length_take]; omega),List.getElem?_append_left (by rw[List.length_take]; omega),<-h7'];rw[List.length_take];congr 1; omega
theorem Ops.appendDel {i:TypeInfo} {D:Array TypeId} {L H:Nat} (B:Nat) (hA:At m (OwnSl (KK s enc he) e a cap xs) m' (OwnSl (KK s enc he) e a cap (xs.take L++xs.drop H))) (hT:P.underlying sT=some (.slice e)) (hi:P.info? e=some i)
  (hsz:i.size=s) (hB:i.bytes=B) (hz:i.zero=some zc) (Z:zc.cells.size=s) (J:D = #[sT,sT]) {a1:Option Addr} {V h H2:Nat} (hx:ev E x=some (.slice a1 V h)) (hy:ev E y=some (.slice (YC a cap H s) (H2 - H) (cap - H)))
  (hx1:a1=a) (U:V=L) (hx3:h=cap) (W:H2=xs.length) (h1:L<=H) (h2:H<=xs.length) (hb:Nat.blt d n.sz=true) (hf:fresh E d=true)
  (k':Ops P ops l n ((d,.slice a (xs.take L++xs.drop H).length cap) :: E) (Sym w0 M I0 I m') Q) :
  Ops P ops (⟨some d,.call ⟨.builtin .append,#[x,y],D⟩,ty,pos,af,none⟩ :: l) n E (Sym w0 M I0 I m) Q:=
 Ops.valx (λv w'=>v=.slice a (xs.take L++xs.drop H).length cap∧Sym w0 M I0 I m' w') rfl rfl
  (λc w K hs=>by
   subst hx1 U hx3 W;obtain⟨r,g2,g3⟩:=hA.del;obtain⟨w',hr,O⟩:=Sym.appendDel (P:=P) (ty':=ty) (hs.del g2) hT hi hsz hB hz Z h1 h2;subst J;refine⟨_,w',?_,rfl,O.undel g3⟩;have e:(#[x,y].map c.eval) = #[.slice a1 V h,.slice (YC a1 h H s) (xs.length - H) (h - H)]:=by simp[K.eval hx,K.eval hy]
   simp only[execOp,resolve,e,Sem.run_bind,Sem.run_pure,Result.andThen_ok,invoke,builtin,hr]) hb hf
  (λv c w K ⟨hv,hs⟩=>by subst hv; exact k' c w K hs)
end
theorem Ops.clearTail {i:TypeInfo} {tys:Array TypeId} {L N:Nat} (hA:Del m (OwnSl El e a cap xs) m') (hT:P.underlying sT=some (.slice e)) (hi:P.info? e=some i)
    (hsz:i.size=El.sz) (hz:i.zero=some zc) (hzc:zc.cells.size=El.sz) (hz1:N1 zc.cells.toList=true) (htys:tys[0]? = some sT) (hx:ev E x=some (.slice (YC a cap L El.sz) (N - L) (cap - L)))
    (h1:L=xs.length) (h2:N<=cap) (k':Ops P ops l n E (Sym w0 M I0 I m) Q) :
    Ops P ops (⟨none,.call ⟨.builtin .clear,#[x],tys⟩,ty,pos,af,none⟩ :: l) n E (Sym w0 M I0 I m) Q:=
  Ops.val0 rfl rfl (λc w ho hs=>by
    have e0:(#[x].map c.eval) = #[.slice (YC a cap L El.sz) (N - L) (cap - L)]:=by simp[ho.eval hx]
    have hzv:∀ w,(zeroValue e).run P w=.ok zc w:=λw=>by simp[zeroValue,typeInfo,hi,hz]
    have hst:=hs.del hA;obtain⟨hb,himm,hn,q,⟨q1,q2,hd',hl1,hl2,hq,hs'⟩,hkk,hdj,hm⟩:=hst;rcases hq with⟨g1,g2,g3⟩ | ⟨b,c',g1,g2,g3,g4,g5⟩
    . subst g1 g2 g3;refine⟨.tuple #[],w,?_,hs⟩;have hN:N - L=0:=by omega
      have hv:YC none 0 L El.sz=none:=by unfold YC; split <;> rfl
      simp[execOp,resolve,e0,invoke,builtin,Builtin.clear_,htys,run_underlying hT,hv]
    . subst g1;by_cases hN:N - L=0
      . refine⟨.tuple #[],w,?_,hs⟩;rw[hN] at e0;have hv:∃ ad,YC (some ⟨b,0,none⟩) cap L El.sz=some ad:=by unfold YC; split <;> exact⟨_,rfl⟩
        obtain⟨ad,hv⟩:=hv;rw[hv] at e0;simp[execOp,resolve,e0,invoke,builtin,Builtin.clear_,htys,run_underlying hT]
      . have hv:YC (some ⟨b,0,none⟩) cap L El.sz=some ⟨b,L*El.sz,none⟩:=by unfold YC;rw[if_neg (by omega)];simp only[Option.map_some,Addr.add]; split <;> simp_all
        rw[hv] at e0;have hpt:Sym w0 M I0 I (Fw.pto b (.cells c' e (0,0)) :: m') w:=⟨hb,himm,hn,q,⟨q1,q2,hd',hl1,hl2,g2,hs'⟩,hkk,hdj,hm⟩;have hmul:L*El.sz+(N - L)*El.sz<=cap*El.sz:=by rw[<-Nat.add_mul]; exact Nat.mul_le_mul_right _ (by omega)
        have hzl:(Builtin.zeroCells zc.cells (N - L)).toList.length=(N - L)*El.sz:=by simp[uE _ hzc]
        have h1z:∀ v∈(Builtin.zeroCells zc.cells (N - L)).toList,one v=true:=by
          intro v hv;simp only[Builtin.zeroCells,Array.toList_map,List.mem_map,Array.toList_range,List.mem_range] at hv;obtain⟨i',hi',rfl⟩:=hv
          have hpos : 0 < zc.cells.size := by
            rcases Nat.eq_zero_or_pos zc.cells.size with h | h; · simp[h] at hi'
            . exact h
          have hlt:i' % zc.cells.size<zc.cells.size:=Nat.mod_lt _ hpos;rw[getElem!_pos zc.cells _ hlt];exact VI hz1 _ (by simp)
        have hr:=run_storeCells_at (P:=P) b (L*El.sz) e (Builtin.zeroCells zc.cells (N - L)).toList 0 c' w hpt.pto (by rw[hzl,g4]; omega) h1z;refine⟨.tuple #[],w.setRow b (c'.toList.take (L*El.sz+0)++(Builtin.zeroCells zc.cells (N - L)).toList++c'.toList.drop (L*El.sz+0+(Builtin.zeroCells zc.cells (N - L)).toList.length)).toArray,?_,?_⟩
        . have hr':(storeCells ⟨b,L*El.sz,none⟩ (Builtin.zeroCells zc.cells (N - L)).toList).run P w=.ok () (w.setRow b (c'.toList.take (L*El.sz+0)++(Builtin.zeroCells zc.cells (N - L)).toList++c'.toList.drop (L*El.sz+0+(Builtin.zeroCells zc.cells (N - L)).toList.length)).toArray):=hr
          cases hk:N - L with
          | zero=>exact absurd hk hN
          | succ k=>
            rw[hk] at hr' e0;simp only[execOp,resolve,e0,invoke,builtin,Builtin.clear_,Sem.run_bind,Sem.run_pure,Result.andThen_ok,htys,List.getElem?_toArray,List.getElem?_cons_zero,run_underlying hT,hzv,hr']
        . have hup:=hpt.upd (o':=.cells (c'.toList.take (L*El.sz+0)++(Builtin.zeroCells zc.cells (N - L)).toList++c'.toList.drop (L*El.sz+0+(Builtin.zeroCells zc.cells (N - L)).toList.length)).toArray e (0,0)) (w':=w.setRow b _) rfl rfl rfl rfl (by simp[World.setRow]) (λq hq=>Fw.setRow_other hq) (setRow_heap w b _ _ e _ hpt.pto);refine(Sym.weaken hup (B:=OwnSl El e (some ⟨b,0,none⟩) cap xs) λq hq=>.inr ⟨b,_,rfl,hq,g3,?_,?_⟩).undel hA
          . simp only[List.size_toArray,List.length_append,List.length_take,List.length_drop,Array.length_toList,hzl,g4]; omega
          . intro i2 x2 hx2;obtain⟨cs,u1,u2⟩:=g5 i2 x2 hx2;refine⟨cs,u1,λj u hj=>?_⟩;have hil:=(List.getElem?_eq_some_iff.1 hx2).1;have hjl:j<El.sz:=by rw[<-El.len u1]; exact(List.getElem?_eq_some_iff.1 hj).1
            have hm2:(i2+1)*El.sz<=L*El.sz:=Nat.mul_le_mul_right _ (by omega);rw[Nat.add_mul,Nat.one_mul] at hm2;have:=u2 j u hj;rw[<-Array.getElem?_toList] at this;simp only[Nat.add_zero,List.getElem?_toArray];rw[List.append_assoc,List.getElem?_append_left (by rw[List.length_take]; simp only[Array.length_toList,g4]; omega),List.getElem?_take,if_pos (by omega),this]) k'
theorem Ops.sliceT {hi:Option Operand} {H k s:Nat} {q:IntKind} {i:Int} (O:P.underlying T=some (.slice e)) (K:∀ w,(sizeOf e).run P w=.ok s w) (hx:ev E x=some (.slice a k cap)) (hk:k=xs.length)
  (hA:Del m (OwnSl El T' a cap xs) m') (h:At m (OwnSl El T' a cap xs) m2 (OwnSl El T' a cap (xs.take H))) (Z:xE E hi=some (some (.int q i))) (W:0<=i) (V:i.toNat=H) (J:H<=xs.length)
  (hb:Nat.blt d n.sz=true) (U:fresh E d=true) (D:Ops P ops l n ((d,.slice a (xs.take H).length cap) :: E) (Sym w0 M I0 I m2) Q) :
  Ops P ops (⟨some d,.slice T x none hi none,ty,pos,af,none⟩ :: l) n E (Sym w0 M I0 I m) Q:=by
 refine Ops.sliceO (L:=0) (H:=H) (s:=s) O K hx hk hA rfl Z (.inl ⟨rfl,rfl⟩) (.inr ⟨_,_,rfl,W,V⟩) (Nat.zero_le _) J hb U ?_;rw[jE,Nat.sub_zero,Nat.sub_zero];refine Ops.takeSl H h ?_;rw[List.length_take,Nat.min_eq_left J] at D;exact D
@[reducible] def fD (sz:Nat):Type:={cs:List Value // cs.length=sz∧N1 cs=true}
@[reducible] def xS (sz:Nat):EP (fD sz):=KK sz Subtype.val λx=>x.2
structure RepR (El:EP α) (I:IH) (css:List (fD El.sz)) (xs:List α):Prop where
 len:css.length=xs.length
 all:∀ (i:Nat) (x:α),xs[i]? = some x→∃ c:fD El.sz,css[i]? = some c∧El.rep I c.1 x
theorem RepR.mono {J:IH} {D:List (fD El.sz)} (h:RepR El I D xs) (K:I.le J):RepR El J D xs:=⟨h.len,λi x V=>let ⟨c,O,U⟩:=h.all i x V; ⟨c,O,El.mono K U⟩⟩
theorem RepR.get {D:List (fD El.sz)} (h:RepR El I D xs) {i:Nat} {x:α} (K:xs[i]? = some x):∃ c J,D[i]? = some ⟨c,J⟩∧El.rep I c x:=
 let ⟨c,O,U⟩:=h.all i x K; ⟨c.1,c.2,O,U⟩
theorem RepR.set {J:List (fD El.sz)} (h:RepR El I J xs) (i:Nat) {x:α} {cs:List Value} (O:El.rep I cs x) (hp:cs.length=El.sz∧N1 cs=true):RepR El I (J.set i ⟨cs,hp⟩) (xs.set i x):=by
 refine⟨by simp only[List.length_set]; exact h.len,λj y D=>?_⟩;by_cases e:i=j
 . subst e;have K:i<xs.length:=by have:=(List.getElem?_eq_some_iff.1 D).1; simpa only[List.length_set] using this
   rw[List.getElem?_set_self K] at D; cases D;exact⟨⟨cs,hp⟩,List.getElem?_set_self (by have:=h.len; omega),O⟩
 . rw[List.getElem?_set_ne e] at D;rw[List.getElem?_set_ne e];exact h.all j y D
theorem AmV {sz:Nat} {R:Nat->α->fD sz->Prop}:∀ {xs:List α},(∀ (i:Nat) (x:α),xs[i]? = some x->∃ c,R i x c)->∃ D:List (fD sz),D.length=xs.length∧∀ (i:Nat) (x:α),xs[i]? = some x->∃ c,D[i]? = some c∧R i x c:=by
 intro xs
 induction xs generalizing R with
 | nil=>exact λ_=>⟨[],rfl,λi x h=>by simp at h⟩
 | cons Z xs V=>
  intro h;obtain⟨K,W⟩:=h 0 Z rfl;obtain⟨D,h1,h2⟩:=V (R:=λi=>R (i+1)) λi x J=>h (i+1) x (by simpa using J);refine⟨K :: D,by simp[h1],λi x J=>?_⟩
  cases i with
  | zero=>simp only[List.getElem?_cons_zero,Option.some.injEq] at J; subst J; exact⟨K,rfl,W⟩
  | succ i=>obtain⟨c,U,O⟩:=h2 i x (by simpa using J); exact⟨c,by simpa using U,O⟩
theorem Sym.openS (h:Sym w0 M I0 I (OwnSl El T a cap xs :: m) w):∃ D:List (fD El.sz),RepR El I D xs∧Sym w0 M I0 I (OwnSl (xS El.sz) T a cap D :: m) w:=by
 obtain⟨hb,hi,hn,k,⟨h1,h2,hd',hl1,hl2,ha,hs'⟩,hk,hdj,hm⟩:=h;rcases ha with⟨V,U,g3⟩ | ⟨b,K,V,U,g3,g4,g5⟩
 . subst U;exact⟨[],⟨rfl,λi x J=>by simp at J⟩,hb,hi,hn,k,⟨h1,h2,hd',hl1,hl2,.inl ⟨V,rfl,g3⟩,hs'⟩,hk,hdj,hm⟩
 . obtain⟨D,e1,e2⟩:=AmV (sz:=El.sz) (R:=λi x c=>El.rep I c.1 x∧∀ (j:Nat) (v:Value),c.1[j]? = some v->K[i*El.sz+j]? = some v) λi x J=>by obtain⟨cs,W,f2⟩:=g5 i x J;exact⟨⟨cs,El.len W,El.one W⟩,W,f2⟩
   refine⟨D,⟨e1,λi x J=>let ⟨c,O,Z⟩:=e2 i x J; ⟨c,O,Z.1⟩⟩,hb,hi,hn,k,⟨h1,h2,hd',hl1,hl2,.inr ⟨b,K,V,U,by omega,g4,λi c hc=>?_⟩,hs'⟩,hk,hdj,hm⟩;have hlt:=(List.getElem?_eq_some_iff.1 hc).1;obtain⟨c',O,Z⟩:=e2 i (xs[i]'(by omega)) (List.getElem?_eq_getElem _);rw[hc] at O; cases O;exact⟨c.1,rfl,Z.2⟩
theorem Sym.closeS {D:List (fD El.sz)} (U:RepR El I D xs) (h:Sym w0 M I0 I (OwnSl (xS El.sz) T a cap D :: m) w):Sym w0 M I0 I (OwnSl El T a cap xs :: m) w:=by
 obtain⟨hb,hi,hn,k,⟨h1,h2,hd',hl1,hl2,ha,hs'⟩,hk,hdj,hm⟩:=h;refine⟨hb,hi,hn,k,⟨h1,h2,hd',hl1,hl2,?_,hs'⟩,hk,hdj,hm⟩;rcases ha with⟨J,O,V⟩ | ⟨b,K,J,O,V,g4,g5⟩
 . have:=U.len; rw[O] at this;exact .inl ⟨J,List.eq_nil_of_length_eq_zero this.symm,V⟩
 . refine .inr ⟨b,K,J,O,by have:=U.len; omega,g4,λi x hx=>?_⟩;obtain⟨c,W,q2⟩:=U.all i x hx;obtain⟨cs,Z,q4⟩:=g5 i c W;cases Z;exact⟨c.1,q2,q4⟩
theorem Ops.openS (U:Del m (OwnSl El T a cap xs) m2) (k:∀ h:List (fD El.sz),RepR El I h xs->Ops P ops l n E (Sym w0 M I0 I (OwnSl (xS El.sz) T a cap h :: m2)) Q):Ops P ops l n E (Sym w0 M I0 I m) Q:=by intro c w O D;obtain⟨h,J,K⟩:=(D.del U).openS;exact k h J c w O K
theorem Cod.openS {c:Code} (U:Del m (OwnSl El T a cap xs) m2) (k:∀ h:List (fD El.sz),RepR El I h xs->Cod P c n E (Sym w0 M I0 I (OwnSl (xS El.sz) T a cap h :: m2)) Q):Cod P c n E (Sym w0 M I0 I m) Q:=by intro c w O D;obtain⟨h,J,K⟩:=(D.del U).openS;exact k h J c w O K
theorem Ops.closeS {h:List (fD El.sz)} (J:Del m (OwnSl (xS El.sz) T a cap h) m2) (K:RepR El I h xs) (k:Ops P ops l n E (Sym w0 M I0 I (OwnSl El T a cap xs :: m2)) Q):Ops P ops l n E (Sym w0 M I0 I m) Q:=
 Ops.pre (λ_ D=>(D.del J).closeS K) k
end Go.Fw
