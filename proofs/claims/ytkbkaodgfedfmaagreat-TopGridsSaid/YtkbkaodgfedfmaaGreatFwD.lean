/- The engine. -/
import Derived.Test.YtkbkaodgfedfmaaGreatFwC
namespace Go.Fw
open Go Go.RowKit
variable {w0 w:World} {M:Nat→Prop} {I0 I:IH} {m m':List HA}
variable {P:Program} {n:FrK} {E:CZ} {Q:Exit→Act→World→Prop} {ops:Array Oper} {l:List Oper}
variable {d ty:Nat} {pos:String} {af:Array Edge} {T e:TypeId} {x y:Operand}
variable {T':TypeId}
structure EP (α:Type) where
 sz:Nat
 rep:IH→List Value→α→Prop
 mono:∀ {I J:IH} {cs:List Value} {x:α},I.le J→rep I cs x→rep J cs x
 len:∀ {I:IH} {cs:List Value} {x:α},rep I cs x→cs.length=sz
 one:∀ {I:IH} {cs:List Value} {x:α},rep I cs x→N1 cs=true
def KK {α:Type} (sz:Nat) (enc:α->List Value) (h:∀ x,(enc x).length=sz∧N1 (enc x)=true):EP α where
 sz:=sz
 rep _ cs x:=cs=enc x
 mono _ h:=h
 len h':=by rw[h']; exact(h _).1
 one h':=by rw[h']; exact(h _).2
variable {α:Type} {El:EP α} {xs ys:List α} {a:Option Addr} {cap:Nat}
def RepSl (El:EP α) (I:IH) (a:Option Addr) (cap:Nat) (xs:List α):Prop:=
 xs.length<=cap∧∀ i x,xs[i]? = some x->∃ b off cs,a=some ⟨b,off,none⟩∧ImC I b (off+i*El.sz) cs∧El.rep I cs x
theorem RepSl.mono {J:IH} (h:RepSl El I a cap xs) (D:I.le J):RepSl El J a cap xs:=
 ⟨h.1,λi x V=>let ⟨b,off,cs,K,U,O⟩:=h.2 i x V; ⟨b,off,cs,K,U.mono D,El.mono D O⟩⟩
theorem RepSl.nil (I:IH) (a:Option Addr) (cap:Nat):RepSl El I a cap []:=⟨Nat.zero_le _,λi x h=>by simp at h⟩
def mD (El:EP α):EP (List α) where
 sz:=1
 rep I cs xs:=∃ a cap,cs=[.slice a xs.length cap]∧RepSl El I a cap xs
 mono hle:=λ⟨a,cap,h1,h2⟩=>⟨a,cap,h1,h2.mono hle⟩
 len:=λ⟨a,cap,h1,_⟩=>by rw[h1]; rfl
 one:=λ⟨a,cap,h1,_⟩=>by rw[h1]; rfl
def OwnSl (El:EP α) (T:TypeId) (a:Option Addr) (cap:Nat) (xs:List α):HA where
 holds I h:=(a=none∧xs=[]∧cap=0)∨∃ b c,a=some ⟨b,0,none⟩∧h b=some (.cells c T (0,0))∧xs.length<=cap∧c.size=cap*El.sz ∧
  ∀ i x,xs[i]? = some x->∃ cs,El.rep I cs x∧∀ j v,cs[j]? = some v->c[i*El.sz+j]? = some v
 mono:=λhI hh=>fun
  | .inl h=>.inl h
  | .inr ⟨b,c,h1,h2,h3,h4,h5⟩=>.inr ⟨b,c,h1,hh _ _ h2,h3,h4,λi x hx=>let ⟨cs,g1,g2⟩:=h5 i x hx; ⟨cs,El.mono hI g1,g2⟩⟩
theorem Sym.own0 (h:Sym w0 M I0 I m w) (El:EP α) (T:TypeId):Sym w0 M I0 I (OwnSl El T none 0 [] :: m) w:=by obtain⟨J,hi,U,k,D,hk,O,K⟩:=h;exact⟨J,hi,U,k,⟨λ_=>none,k,λ_=>.inl rfl,(λ_ _ x=>nomatch x),IH.le.refl _,.inl ⟨rfl,rfl,rfl⟩,D⟩,hk,O,K⟩
theorem Sym.pubSl (h:Sym w0 M I0 I m w) (hA:Del m (OwnSl El T a cap xs) m'):∃ J,I.le J∧RepSl El J a cap xs∧Sym w0 M I0 J m' w:=by
 obtain⟨J,k,D,ha,hk,V⟩:=(h.del hA).publish;refine⟨J,D,?_,V⟩;rcases ha with⟨U,K,O⟩ | ⟨b,c,U,K,O,h4,h5⟩
 . subst K; exact .nil _ _ _
 . refine⟨O,λi x hx=>?_⟩;obtain⟨cs,W,g2⟩:=h5 i x hx;exact⟨b,0,cs,U,⟨c,T,(0,0),hk _ _ K,λj v Z=>by rw[Nat.zero_add]; exact g2 j v Z⟩,El.mono D W⟩
theorem Ops.len {S:World->Prop} {k:Nat} {h:Array TypeId} (O:P.underlying T=some (.slice e)) (D:h[0]? = some T) (W:ev E x=some (.slice a k cap)) (K:Nat.blt d n.sz=true) (U:fresh E d=true)
  (J:Ops P ops l n ((d,.int .i64 (k:Int)) :: E) S Q):Ops P ops (⟨some d,.call ⟨.builtin .len,#[x],h⟩,ty,pos,af,none⟩ :: l) n E S Q:=
 Ops.val rfl rfl (λc w V _=>by simp[execOp,resolve,invoke,builtin,Builtin.len_,V.eval W,D,run_underlying O,goInt]) K U J
theorem Ops.capOf {S:World->Prop} {k:Nat} {h:Array TypeId} (O:P.underlying T=some (.slice e)) (D:h[0]? = some T) (W:ev E x=some (.slice a k cap)) (K:Nat.blt d n.sz=true) (U:fresh E d=true)
  (J:Ops P ops l n ((d,.int .i64 (cap:Int)) :: E) S Q):Ops P ops (⟨some d,.call ⟨.builtin .cap,#[x],h⟩,ty,pos,af,none⟩ :: l) n E S Q:=
 Ops.val rfl rfl (λc w V _=>by simp[execOp,resolve,invoke,builtin,Builtin.cap_,V.eval W,D,run_underlying O,goInt]) K U J
theorem Ops.ixa {S:World->Prop} {k s off b:Nat} {q:IntKind} {i:Int} (K:P.underlying T=some (.slice e)) (J:∀ w,(sizeOf e).run P w=.ok s w) (hx:ev E x=some (.slice a k cap)) (W:a=some ⟨b,off,none⟩)
  (hy:ev E y=some (.int q i)) (U:0<=i) (hk:i<k) (V:Nat.blt d n.sz=true) (O:fresh E d=true) (D:Ops P ops l n ((d,.pointer (some ⟨b,off+i.toNat*s,none⟩)) :: E) S Q) :
  Ops P ops (⟨some d,.indexAddr T x y,ty,pos,af,none⟩ :: l) n E S Q:=
 Ops.val rfl rfl (λc w h _=>by
  subst W;have Z:(⟨b,off,none⟩:Addr).add (i.toNat*s)=⟨b,off+i.toNat*s,none⟩:=by unfold Addr.add; split <;> simp_all
  simp only[execOp,Instr.indexAt,h.eval hx,h.eval hy,asIntOf,Sem.run_bind,Sem.run_pure,Result.andThen_ok,run_underlying K,U,hk,and_self,if_true,J,Z]) V O D
theorem OwnSl.cell {enc:α->List Value} {s:Nat} {K:∀ x,(enc x).length=s∧N1 (enc x)=true} {b:Nat} (h:Sym w0 M I0 I m w) (hA:Del m (OwnSl (KK s enc K) T' (some ⟨b,0,none⟩) cap xs) m') {i j:Nat} {v:α} {u:Value}
   (hi:xs[i]? = some v) (O:(enc v)[j]? = some u):w.cell? ⟨b,i*s+j,none⟩=some u:=by
 obtain⟨k1,W,hk⟩:=(h.del hA).get;rcases W with⟨D,_⟩ | ⟨b',c,D,Z,h3,h4,V⟩
 . cases D
 . cases D;obtain⟨cs,J,U⟩:=V i v hi;cases J;rw[LU (hk _ _ Z)];exact U j u O
theorem Ops.lo1 {enc:α->List Value} {s:Nat} {D:∀ x,(enc x).length=s∧N1 (enc x)=true} {b o i j:Nat} {v:α} {u:Value} (J:∀ w,(isAgg T).run P w=.ok false w)
  (Z:Del m (OwnSl (KK s enc D) T' (some ⟨b,0,none⟩) cap xs) m') (hi:xs[i]? = some v) (hx:ev E x=some (.pointer (some ⟨b,o,none⟩))) (V:o=i*s+j) (K:(enc v)[j]? = some u)
  (W:Nat.blt d n.sz=true) (O:fresh E d=true) (k:Ops P ops l n ((d,u) :: E) (Sym w0 M I0 I m) Q):Ops P ops (⟨some d,.load T x,ty,pos,af,none⟩ :: l) n E (Sym w0 M I0 I m) Q:=
 Ops.val rfl rfl (λc w h U=>by subst V; simp[execOp,h.eval hx,PO (P:=P) J (OwnSl.cell U Z hi K)]) W O k
theorem Ops.loA {enc:α->List Value} {s D:Nat} {O:∀ x,(enc x).length=s∧N1 (enc x)=true} {b o i j:Nat} {v:α} {vs:List Value} (U:∀ w,(isAgg T).run P w=.ok true w)
  (K:∀ w,(sizeOf T).run P w=.ok D w) (hA:Del m (OwnSl (KK s enc O) T' (some ⟨b,0,none⟩) cap xs) m') (hi:xs[i]? = some v) (hx:ev E x=some (.pointer (some ⟨b,o,none⟩))) (Z:o=i*s+j)
  (V:Cut (enc v) j vs) (hl:vs.length=D) (hb:Nat.blt d n.sz=true) (W:fresh E d=true) (k:Ops P ops l n ((d,.agg vs.toArray) :: E) (Sym w0 M I0 I m) Q) :
  Ops P ops (⟨some d,.load T x,ty,pos,af,none⟩ :: l) n E (Sym w0 M I0 I m) Q:=
 Ops.val rfl rfl (λc w J hs=>by subst Z;simp[execOp,J.eval hx,JY (P:=P) U K hl (λi' v' h=>by rw[Nat.add_assoc]; exact OwnSl.cell hs hA hi (V.get i' v' h))]) hb W k
theorem OwnSl.put {El:EP α} {b:Nat} {i j:Nat} {v v':α} {vs:List Value} {r:List HA} (h:Sym w0 M I0 I (OwnSl El T' (some ⟨b,0,none⟩) cap xs :: r) w)
   (hi:xs[i]? = some v) (hp:∀ cs,El.rep I cs v->∃ K,PutC cs j vs K∧El.rep I K v') (h1:N1 vs=true) :
   ∃ w',(storeCells ⟨b,i*El.sz+j,none⟩ vs).run P w=.ok () w'∧Sym w0 M I0 I (OwnSl El T' (some ⟨b,0,none⟩) cap (xs.set i v') :: r) w':=by
 obtain⟨hb,himm,hn,k,⟨k1,k2,hd',hl1,hl2,ha,hs'⟩,hk,hdj,hm⟩:=h;rcases ha with⟨V,_⟩ | ⟨b',c,V,h2,h3,h4,h5⟩
 . cases V
 . cases V;have W:Sym w0 M I0 I (Fw.pto b (.cells c T' (0,0)) :: r) w:=⟨hb,himm,hn,k,⟨k1,k2,hd',hl1,hl2,h2,hs'⟩,hk,hdj,hm⟩;obtain⟨cs,g1,g2⟩:=h5 i v hi;obtain⟨K,hput,Z⟩:=hp cs g1;obtain⟨he,hle⟩:=hput.eq;have hcl:=El.len g1;have hlt:i<xs.length:=(List.getElem?_eq_some_iff.1 hi).1
   have hmul:i*El.sz+El.sz<=cap*El.sz:=by
     have:(i+1)*El.sz<=cap*El.sz:=Nat.mul_le_mul_right _ (by omega)
     rwa [Nat.add_mul,Nat.one_mul] at this
   have hr:=run_storeCells_at (P:=P) b (i*El.sz+j) T' vs 0 c w W.pto (by omega) (VI h1);refine⟨_,hr,?_⟩;have hup:=W.upd (o':=.cells (c.toList.take (i*El.sz+j+0)++vs++c.toList.drop (i*El.sz+j+0+vs.length)).toArray T' (0,0)) (w':=w.setRow b _) rfl rfl rfl rfl (by simp[World.setRow]) (λq hq=>Fw.setRow_other hq) (setRow_heap w b _ _ T' _ W.pto);refine hup.weaken λq hq=>.inr ⟨b,_,rfl,hq,by simpa using h3,?_,?_⟩
   . simp; omega
   . intro i2 x2 J;by_cases e2:i=i2
     . subst e2;rw[List.getElem?_set_self hlt] at J;cases J;refine⟨K,Z,λU u D=>?_⟩;rw[he] at D;simp only[Nat.add_zero,List.getElem?_toArray];rcases Nat.lt_or_ge U j with h6 | h6
       . rw[List.append_assoc,List.getElem?_append_left (by simp; omega)] at D;rw[List.append_assoc,List.getElem?_append_left (by simp; omega),List.getElem?_take,if_pos (by omega)];rw[List.getElem?_take,if_pos h6] at D;simpa using g2 U u D
       . rcases Nat.lt_or_ge U (j+vs.length) with h7 | h7
         . rw[List.getElem?_append_left (by simp; omega),List.getElem?_append_right (by simp; omega)] at D ⊢;simp only[List.length_take,Array.length_toList] at D ⊢;rw[<-D]; congr 1; omega
         . rw[List.getElem?_append_right (by simp; omega),List.getElem?_drop] at D ⊢;simp only[List.length_append,List.length_take,Array.length_toList] at D ⊢;have:=g2 U u (by rw[<-D]; congr 1; omega);rw[<-Array.getElem?_toList] at this;rw[<-this]; congr 1; omega
     . rw[List.getElem?_set_ne e2] at J;obtain⟨cs2,g3,g4⟩:=h5 i2 x2 J;refine⟨cs2,g3,λU u D=>?_⟩;have hj2l:U<El.sz:=by rw[<-El.len g3]; exact(List.getElem?_eq_some_iff.1 D).1
       have h8:=g4 U u D;rw[<-Array.getElem?_toList] at h8;simp only[Nat.add_zero,List.getElem?_toArray];rcases Nat.lt_or_gt_of_ne e2 with h9 | h9
       . have O:(i+1)*El.sz<=i2*El.sz:=Nat.mul_le_mul_right _ h9;rw[Nat.add_mul,Nat.one_mul] at O;rw[List.getElem?_append_right (by simp; omega),List.getElem?_drop,<-h8];simp only[List.length_append,List.length_take,Array.length_toList];congr 1; omega
       . have O:(i2+1)*El.sz<=i*El.sz:=Nat.mul_le_mul_right _ h9;rw[Nat.add_mul,Nat.one_mul] at O;rw[List.append_assoc,List.getElem?_append_left (by simp; omega),List.getElem?_take,if_pos (by omega),h8]
theorem Ops.stO1 {enc:α->List Value} {s:Nat} {V:∀ x,(enc x).length=s∧N1 (enc x)=true} {b o i j:Nat} {v v':α} {u:Value} (W:∀ w,(sizeOf T).run P w=.ok 1 w)
  (hA:At m (OwnSl (KK s enc V) T' (some ⟨b,0,none⟩) cap xs) m' (OwnSl (KK s enc V) T' (some ⟨b,0,none⟩) cap (xs.set i v'))) (hi:xs[i]? = some v) (hx:ev E x=some (.pointer (some ⟨b,o,none⟩))) (ho:o=i*s+j)
  (Z:ev E y=some u) (hp:PutC (enc v) j [u] (enc v')) (O:Fw.one u=true) (k:Ops P ops l n E (Sym w0 M I0 I m') Q):Ops P ops (⟨none,.store T x y,ty,pos,af,none⟩ :: l) n E (Sym w0 M I0 I m) Q:=
 Ops.act rfl rfl (λc w U hs=>by
  subst ho;obtain⟨r,h2,h3⟩:=hA.del;obtain⟨w',hr,D⟩:=OwnSl.put (P:=P) (hs.del h2) hi (λcs h=>by cases h; exact⟨_,hp,rfl⟩) (by simp[N1,O]);refine⟨w',?_,D.undel h3⟩;have K:u.cells = #[u]:=by cases u <;> first | rfl | cases O
  have J:(storeCells ⟨b,i*s+j,none⟩ [u]).run P w=.ok () w':=hr;simp[execOp,U.eval hx,U.eval Z,Instr.storeAt,Instr.sureAddr,storeVar,W,K,J]) k
theorem Ops.stOA {enc:α->List Value} {s V:Nat} {U:∀ x,(enc x).length=s∧N1 (enc x)=true} {b o i j:Nat} {v v':α} {h:List Value} (W:∀ w,(sizeOf T).run P w=.ok V w)
  (hA:At m (OwnSl (KK s enc U) T' (some ⟨b,0,none⟩) cap xs) m' (OwnSl (KK s enc U) T' (some ⟨b,0,none⟩) cap (xs.set i v'))) (hi:xs[i]? = some v) (hx:ev E x=some (.pointer (some ⟨b,o,none⟩))) (ho:o=i*s+j)
  (Z:ev E y=some (.agg h.toArray)) (hp:PutC (enc v) j h (enc v')) (hl:h.length=V) (h1:N1 h=true) (k:Ops P ops l n E (Sym w0 M I0 I m') Q):Ops P ops (⟨none,.store T x y,ty,pos,af,none⟩ :: l) n E (Sym w0 M I0 I m) Q:=
 Ops.act rfl rfl (λc w O hs=>by subst ho;obtain⟨r,h2,h3⟩:=hA.del;obtain⟨w',hr,J⟩:=OwnSl.put (P:=P) (hs.del h2) hi (λcs D=>by cases D; exact⟨_,hp,rfl⟩) h1;refine⟨w',?_,J.undel h3⟩;have K:(storeCells ⟨b,i*s+j,none⟩ h).run P w=.ok () w':=hr;simp[execOp,O.eval hx,O.eval Z,Instr.storeAt,Instr.sureAddr,storeVar,W,Value.cells,hl,K]) k
end Go.Fw
