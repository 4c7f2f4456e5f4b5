/- The engine, part W: own slices of own slices. -/
import Derived.Test.YtbohadngdkjljaaGreatFwV
namespace Go.Fw
open Go Go.RowKit
variable {w0 w:World} {M:Nat→Prop} {I0 I:IH} {m m':List HA}
variable {P:Program} {n:FrK} {E:DY} {S:World→Prop} {Q:Exit→Act→World→Prop} {ops:Array Oper} {l:List Oper}
variable {d ty:Nat} {pos:String} {af:Array Edge} {T e:TypeId} {x y:Operand} {α:Type} {El:FH α} {a:Option Addr} {cap:Nat} {xss:List (List α)}
abbrev Hd:=Option Addr×Nat×Nat
abbrev nE:FH Hd:=KI 1 (fun p=>[.slice p.1 p.2.1 p.2.2]) (fun _=>⟨rfl,rfl⟩)
def QI (h:List (Option Addr×Nat)) (xss:List (List α)):List Hd:=List.zipWith (fun p xs=>(p.1,xs.length,p.2)) h xss
def OY (El:FH α) (T:TypeId) (h:List (Option Addr×Nat)) (xss:List (List α)):List HA:=List.zipWith (fun p xs=>OwnSl El T p.1 p.2 xs) h xss
def NO (El:FH α) (T e:TypeId) (a:Option Addr) (cap:Nat) (xss:List (List α)):HA where
  holds I h:=∃ hs:List (Option Addr×Nat),hs.length=xss.length∧NF (OwnSl nE e a cap (QI hs xss) :: OY El T hs xss) I h
  mono:=fun hI hh ⟨hs,h1,h2⟩=>⟨hs,h1,KT hI hh h2⟩
theorem jF:∀ {L:List HA} {v:Nat} {A:HA},L[v]? = some A→Del L A (L.eraseIdx v)
  | B :: L,0,A,h=>by simp only [List.getElem?_cons_zero,Option.some.injEq] at h; subst h; exact .z
  | B :: L,v+1,A,h=>by rw [List.eraseIdx_cons_succ]; exact .s (jF (by simpa using h))
theorem AaI {L D:List HA} {A:HA} (h:Del L A D) (r:List HA):Del (L++r) A (D++r):=by
  induction h with
  | z=>exact .z
  | s _ G=>exact .s G
theorem Sym.unfoldL {A:HA} (h:Sym w0 M I0 I (A :: m) w) {X:Prop} (g:∀ k,A.holds I k→∃ L:List HA,NF L I k∧(Sym w0 M I0 I (L++m) w→X)):X:=by
  obtain ⟨J,hi,O,k,⟨h1,h2,hd',hl1,hl2,ha,hs'⟩,hk,hdj,hm⟩:=h
  obtain ⟨L,D,G⟩:=g h1 ha
  exact G ⟨J,hi,O,k,MY.2 ⟨h1,h2,hd',hl1,hl2,D,hs'⟩,hk,hdj,hm⟩
theorem Sym.foldL {A:HA} {L:List HA} (h:Sym w0 M I0 I (L++m) w) (g:∀ k,NF L I k→A.holds I k):Sym w0 M I0 I (A :: m) w:=by
  obtain ⟨W,hi,hn,k,hs,hk,O,hm⟩:=h
  obtain ⟨V,Z,G,D,U,Y,J⟩:=MY.1 hs
  exact ⟨W,hi,hn,k,⟨V,Z,G,D,U,g V Y,J⟩,hk,O,hm⟩
theorem Sym.foldL2 {A B:HA} {L:List HA} (h:Sym w0 M I0 I (A :: (L++m)) w) (g:∀ k,NF L I k→B.holds I k):Sym w0 M I0 I (A :: B :: m) w:=by
  obtain ⟨W,hi,Z,k,⟨h1,h2,hd',hl1,hl2,ha,hs'⟩,hk,hdj,hm⟩:=h
  obtain ⟨V,Y,G,J,U,O,D⟩:=MY.1 hs'
  exact ⟨W,hi,Z,k,⟨h1,h2,hd',hl1,hl2,ha,V,Y,G,J,U,g V O,D⟩,hk,hdj,hm⟩
theorem ZA {D:List (Option Addr×Nat)} {v:Nat} {p:Option Addr×Nat} {x:List α} (h:D[v]? = some p) (G:xss[v]? = some x):(QI D xss)[v]? = some (p.1,x.length,p.2):=by
  unfold QI; rw [List.getElem?_zipWith,h,G]
theorem kG {D:List (Option Addr×Nat)} {v:Nat} {p:Option Addr×Nat} {x:List α} (h:D[v]? = some p) (G:xss[v]? = some x):(OY El T D xss)[v]? = some (OwnSl El T p.1 p.2 x):=by
  unfold OY; rw [List.getElem?_zipWith,h,G]
theorem qM {α β γ:Type} (f:α→β→γ):∀ (as:List α) (bs:List β) (v:Nat) (a:α) (b:β),List.zipWith f (as.set v a) (bs.set v b)=(List.zipWith f as bs).set v (f a b)
  | [],_,_,_,_=>by simp
  | _ :: _,[],v,_,_=>by cases v <;> simp
  | a :: as,b :: bs,0,_,_=>by simp
  | a :: as,b :: bs,v+1,x,y=>by simp [qM f as bs v x y]
theorem oK {α:Type}:∀ (l:List α) (v:Nat) (a:α),(l.set v a).eraseIdx v=l.eraseIdx v
  | [],_,_=>by simp
  | _ :: _,0,_=>by simp
  | b :: l,v+1,a=>by simp [oK l v a]
theorem tX (El:FH α) (T:TypeId) (I:IH):∀ n:Nat,NF (OY El T (List.replicate n (none,0)) (List.replicate n [])) I (fun _=>none)
  | 0=>trivial
  | n+1=>⟨fun _=>none,fun _=>none,fun _=>.inl rfl,IH.le.refl _,IH.le.refl _,.inl ⟨rfl,rfl,rfl⟩,tX El T I n⟩
theorem Sym.toNest {k:Nat} (h:Sym w0 M I0 I (OwnSl nE e a cap (List.replicate k (none,0,0)) :: m) w):Sym w0 M I0 I (NO El T e a cap (List.replicate k []) :: m) w:=by
  refine h.weaken fun q D=>⟨List.replicate k (none,0),by simp,q,fun _=>none,fun _=>.inr rfl,IH.le.refl _,(fun _ _ x=>nomatch x),?_,tX El T I k⟩
  have:QI (List.replicate k ((none:Option Addr),0)) (List.replicate k ([]:List α))=List.replicate k (none,0,0):=by unfold QI; rw [List.zipWith_replicate,Nat.min_self]; rfl
  rw [this]; exact D
theorem AfT:∀ {L:List HA} {I k:IH} {i:Nat} {A:HA},NF L I k→L[i]? = some A→∃ h,h.le k∧A.holds I h:=fun O hi=>by
  obtain ⟨G,h2,_,D,_,J,_⟩:=cF (jF hi) O
  exact ⟨G,D,J⟩
theorem OwnSl.imm {J h:IH} {xs:List α} (W:(OwnSl El T a cap xs).holds I h) (G:I.le J) (hk:h.le J):RepSl El J a cap xs:=by
  rcases W with ⟨_,D,_⟩ | ⟨b,c,V,D,U,h4,h5⟩
  · subst D; exact .nil _ _ _
  · refine ⟨U,fun i x hx=>?_⟩
    obtain ⟨cs,Z,O⟩:=h5 i x hx
    exact ⟨b,0,cs,V,⟨c,T,(0,0),hk _ _ D,fun j v Y=>by rw [Nat.zero_add]; exact O j v Y⟩,El.mono G Z⟩
theorem Sym.pubNest (h:Sym w0 M I0 I m w) (hA:Del m (NO El T e a cap xss) m'):∃ G,I.le G∧RepSl (NN El) G a cap xss∧Sym w0 M I0 G m' w:=by
  obtain ⟨G,k,D,⟨hs,hl,h1,h2,hd,hl1,hl2,ha,hin⟩,hk,hs'⟩:=(h.del hA).publish
  have W:=OwnSl.imm ha D (hl1.trans hk)
  have V:(QI hs xss).length=xss.length:=by unfold QI; rw [List.length_zipWith,hl,Nat.min_self]
  refine ⟨G,D,⟨by have:=W.1; omega,fun i x O=>?_⟩,hs'⟩
  have hv:i<hs.length:=by rw [hl]; exact (List.getElem?_eq_some_iff.1 O).1
  have hp:hs[i]? = some hs[i]:=List.getElem?_eq_getElem hv
  obtain ⟨b,off,cs,g1,Z,Y⟩:=W.2 i _ (ZA hp O)
  obtain ⟨q,J,U⟩:=AfT hin (kG (El:=El) (T:=T) hp O)
  exact ⟨b,off,cs,g1,Z,hs[i].1,hs[i].2,Y,OwnSl.imm U D (J.trans (hl2.trans hk))⟩
theorem Sym.nestNe (h:Sym w0 M I0 I m w) (O:Del m (NO El T e a cap xss) m') (J:xss≠[]):∃ b,a=some ⟨b,0,none⟩:=by
  obtain ⟨k,⟨hs,hl,h1,h2,hd,hl1,hl2,ha,hin⟩,_⟩:=(h.del O).get
  rcases ha with ⟨_,G,_⟩ | ⟨b,c,G,_⟩
  · exfalso
    have D:(QI hs xss).length=xss.length:=by unfold QI; rw [List.length_zipWith,hl,Nat.min_self]
    rw [G] at D
    exact J (List.length_eq_zero_iff.1 D.symm)
  · exact ⟨b,G⟩
theorem Ops.toNest (El:FH α) (T:TypeId) {k:Nat} (h:Del m (OwnSl nE e a cap (List.replicate k (none,0,0))) m') (g:Ops P ops l n E (Sym w0 M I0 I (NO El T e a cap (List.replicate k []) :: m')) Q):Ops P ops l n E (Sym w0 M I0 I m) Q:=
  fun c w D G=>g c w D (G.del h).toNest
theorem Cod.pubNest {c:Code} (G:Del m (NO El T e a cap xss) m') (k:∀ h,I.le h→RepSl (NN El) h a cap xss→Cod P c n E (Sym w0 M I0 h m') Q):Cod P c n E (Sym w0 M I0 I m) Q:=
  fun c w O V=>by obtain ⟨h,J,U,D⟩:=V.pubNest G; exact k h J U c w O D
def Aj3 (h:List Hd) (xss:List (List α)):Prop:=h.length=xss.length∧∀ (i:Nat) (x:List α),xss[i]? = some x→∃ p c,h[i]? = some (p,x.length,c)
def jG (El:FH α) (T:TypeId) (hds:List Hd) (xss:List (List α)):HA where
  holds I h:=∃ hs:List (Option Addr×Nat),hs.length=xss.length∧hds=QI hs xss∧NF (OY El T hs xss) I h
  mono:=fun hI hh ⟨hs,h1,h2,h3⟩=>⟨hs,h1,h2,KT hI hh h3⟩
def W9 (El:FH α) (T:TypeId) (hds:List Hd) (xss:List (List α)) (v:Nat):HA where
  holds I h:=∃ hs:List (Option Addr×Nat),hs.length=xss.length∧hds=QI hs xss∧NF ((OY El T hs xss).eraseIdx v) I h
  mono:=fun hI hh ⟨hs,h1,h2,h3⟩=>⟨hs,h1,h2,KT hI hh h3⟩
theorem AbS {h:List (Option Addr×Nat)} (D:h.length=xss.length):(QI h xss).length=xss.length:=by unfold QI; rw [List.length_zipWith,D,Nat.min_self]
theorem Sym.nestX (h:Sym w0 M I0 I (NO El T e a cap xss :: m) w):∃ D,Aj3 D xss∧Sym w0 M I0 I (OwnSl nE e a cap D :: jG El T D xss :: m) w:=by
  refine h.unfoldL fun k ⟨J,O,G⟩=>⟨_,G,fun V=>⟨QI J xss,⟨AbS O,fun i x U=>?_⟩,V.foldL2 (L:=OY El T J xss) fun k hk=>⟨J,O,rfl,hk⟩⟩⟩
  have W:i<J.length:=by rw [O]; exact (List.getElem?_eq_some_iff.1 U).1
  exact ⟨_,_,ZA (List.getElem?_eq_getElem W) U⟩
theorem Sym.nestF {D:List Hd} {v:Nat} {x:List α} {p:Option Addr} {k c:Nat} (h:Sym w0 M I0 I (jG El T D xss :: m) w) (U:xss[v]? = some x) (hc:D[v]? = some (p,k,c)):Sym w0 M I0 I (OwnSl El T p c x :: W9 El T D xss v :: m) w:=by
  refine h.unfoldL fun _ ⟨J,W,he,G⟩=>⟨_,G,fun Y=>?_⟩
  have hv:v<J.length:=by rw [W]; exact (List.getElem?_eq_some_iff.1 U).1
  have hp:J[v]? = some J[v]:=List.getElem?_eq_getElem hv
  have O:=ZA hp U
  rw [←he,hc,Option.some.injEq,Prod.mk.injEq,Prod.mk.injEq] at O
  have Z:=AaI (jF (kG (El:=El) (T:=T) hp U)) m
  have V:=Y.del Z
  rw [←O.1,←O.2.2] at V
  exact V.foldL2 fun k hk=>⟨J,W,he,hk⟩
theorem Sym.nestPut {U:List Hd} {v b:Nat} {x G:List α} {J:Option Addr} {D:Nat} (h:Sym w0 M I0 I (OwnSl nE e (some ⟨b,0,none⟩) cap U :: OwnSl El T J D G :: W9 El T U xss v :: m) w) (hx:xss[v]? = some x) :
    ∃ w',(storeCells ⟨b,v,none⟩ [.slice J G.length D]).run P w=.ok () w'∧Sym w0 M I0 I (NO El T e (some ⟨b,0,none⟩) cap (xss.set v G) :: m) w':=by
  have h1:Sym w0 M I0 I (W9 El T U xss v :: OwnSl nE e (some ⟨b,0,none⟩) cap U :: OwnSl El T J D G :: m) w:=h.del (.s (.s .z))
  refine h1.unfoldL fun k ⟨O,hl,he,W⟩=>⟨_,W,fun h'=>?_⟩
  subst he
  have hvx:v<xss.length:=(List.getElem?_eq_some_iff.1 hx).1
  have hp:O[v]? = some O[v]:=List.getElem?_eq_getElem (by omega)
  have dl:∀ (L:List HA) (A:HA) (r:List HA),Del (L++A :: r) A (L++r):=fun L A r=>by
    induction L with
    | nil=>exact .z
    | cons B L ih=>exact .s ih
  have h2:=h'.del (dl _ _ _)
  obtain ⟨w',Y,hs'⟩:=OwnSl.put (P:=P) (j:=0) (v':=(J,G.length,D)) (vs:=[.slice J G.length D]) h2 (ZA hp hx) (fun cs Z=>by cases Z; exact ⟨_,.t .nil,rfl⟩) rfl
  have Y:(storeCells ⟨b,v*1+0,none⟩ [.slice J G.length D]).run P w=.ok () w':=Y
  rw [Nat.mul_one,Nat.add_zero] at Y
  refine ⟨w',Y,?_⟩
  have hlen:(OY El T O xss).length=xss.length:=by unfold OY; rw [List.length_zipWith,hl,Nat.min_self]
  have V:((OY El T O xss).set v (OwnSl El T J D G))[v]? = some (OwnSl El T J D G):=by rw [List.getElem?_set_self (by omega)]
  have hd:=AaI (jF V) m
  rw [oK] at hd
  have h3:=hs'.del (.s (dl _ _ _))
  have h4:Sym w0 M I0 I ((OwnSl nE e (some ⟨b,0,none⟩) cap ((QI O xss).set v (J,G.length,D)) :: (OY El T O xss).set v (OwnSl El T J D G))++m) w':=h3.undel (.s hd)
  refine h4.foldL fun k hk=>⟨O.set v (J,D),by simp [hl],?_⟩
  have e1:QI (O.set v (J,D)) (xss.set v G)=(QI O xss).set v (J,G.length,D):=qM (fun (p:Option Addr×Nat) (xs:List α)=>((p.1,xs.length,p.2):Hd)) O xss v (J,D) G
  have e2:OY El T (O.set v (J,D)) (xss.set v G)=(OY El T O xss).set v (OwnSl El T J D G):=qM (fun (p:Option Addr×Nat) xs=>OwnSl El T p.1 p.2 xs) O xss v (J,D) G
  rw [e1,e2]; exact hk
theorem Cod.nestX {c:Code} (D:Del m (NO El T e a cap xss) m') (k:∀ h,Aj3 h xss→Cod P c n E (Sym w0 M I0 I (OwnSl nE e a cap h :: jG El T h xss :: m')) Q):Cod P c n E (Sym w0 M I0 I m) Q:=
  fun a w J U=>by obtain ⟨h,G,O⟩:=(U.del D).nestX; exact k h G a w J O
theorem Cod.nestN {c:Code} (G:Del m (NO El T e a cap xss) m') (k:(xss≠[]→∃ b,a=some ⟨b,0,none⟩)→Cod P c n E (Sym w0 M I0 I m) Q):Cod P c n E (Sym w0 M I0 I m) Q:=
  fun a w J D=>k (fun h=>D.nestNe G h) a w J D
theorem Ops.nestF {D:List Hd} {v:Nat} {z:List α} {p:Option Addr} {k c:Nat} (G:Del m (jG El T D xss) m') (O:xss[v]? = some z) (J:D[v]? = some (p,k,c)) (g:Ops P ops l n E (Sym w0 M I0 I (OwnSl El T p c z :: W9 El T D xss v :: m')) Q):Ops P ops l n E (Sym w0 M I0 I m) Q:=
  Ops.pre (fun _ h=>(h.del G).nestF O J) g
theorem Ops.nestSt {T':TypeId} {b o v k:Nat} {z h:List α} {D:List Hd} {J:Option Addr} {G v':Nat} {m1 Y Z:List HA} (hS:∀ w,(sizeOf T').run P w=.ok 1 w) (hB:Del m (W9 El T D xss v') m1) (hv:v'=v) (hA:Del m1 (OwnSl El T J G h) Y) (hH:Del Y (OwnSl nE e (some ⟨b,0,none⟩) cap D) Z) (hz:xss[v]? = some z)
    (hx:ev E x=some (.pointer (some ⟨b,o,none⟩))) (ho:o=v*1) (hy:ev E y=some (.slice J k G)) (hk:k=h.length) (g:Ops P ops l n E (Sym w0 M I0 I (NO El T e (some ⟨b,0,none⟩) cap (xss.set v h) :: Z)) Q) :
    Ops P ops (⟨none,.store T' x y,ty,pos,af,none⟩ :: l) n E (Sym w0 M I0 I m) Q:=
  Ops.act rfl rfl (fun cc w W hs=>by
    subst ho hk hv
    obtain ⟨w',hr,O⟩:=Sym.nestPut (P:=P) ((((hs.del hB).del (.s hA)).del (.s (.s hH))).del (.s (.s .z)) |>.undel (.s (.s .z))) hz
    refine ⟨w',?_,O⟩
    rw [Nat.mul_one] at hx
    have U:(storeCells ⟨b,v',none⟩ [.slice J h.length G]).run P w=.ok () w':=hr
    have V:(Value.slice J h.length G).cells = #[.slice J h.length G]:=rfl
    simp [execOp,W.eval hx,W.eval hy,Instr.storeAt,Instr.sureAddr,storeVar,hS,V,U]) g
end Go.Fw
