/- The engine, part W: own slices of own slices. -/
import Derived.Test.YtbohadngdkjljaaGreatFwV
namespace Go.Fw
open Go Go.RowKit
variable {w0 w:World} {M:Nat→Prop} {I0 I:IH} {m m':List HA}
variable {P:Program} {n:FrK} {E:DH} {S:World→Prop} {Q:Exit→Act→World→Prop} {ops:Array Oper} {l:List Oper}
variable {d ty:Nat} {pos:String} {af:Array Edge} {T e:TypeId} {x y:Operand} {α:Type} {El:EL α} {a:Option Addr} {cap:Nat} {xss:List (List α)}
abbrev Hd:=Option Addr×Nat×Nat
abbrev iI:EL Hd:=JI 1 (fun p=>[.slice p.1 p.2.1 p.2.2]) (fun _=>⟨rfl,rfl⟩)
def PH (hs:List (Option Addr×Nat)) (xss:List (List α)):List Hd:=List.zipWith (fun p xs=>(p.1,xs.length,p.2)) hs xss
def OA (El:EL α) (T:TypeId) (hs:List (Option Addr×Nat)) (xss:List (List α)):List HA:=List.zipWith (fun p xs=>OwnSl El T p.1 p.2 xs) hs xss
def IK (El:EL α) (T e:TypeId) (a:Option Addr) (cap:Nat) (xss:List (List α)):HA where
  holds I h:=∃ hs:List (Option Addr×Nat),hs.length=xss.length∧MQ (OwnSl iI e a cap (PH hs xss) :: OA El T hs xss) I h
  mono:=fun hI hh ⟨hs,h1,h2⟩=>⟨hs,h1,KJ hI hh h2⟩
theorem gK:∀ {L:List HA} {v:Nat} {A:HA},L[v]? = some A→Del L A (L.eraseIdx v)
  | B :: L,0,A,h=>by simp only [List.getElem?_cons_zero,Option.some.injEq] at h; subst h; exact .z
  | B :: L,v+1,A,h=>by rw [List.eraseIdx_cons_succ]; exact .s (gK (by simpa using h))
theorem xV {L L':List HA} {A:HA} (h:Del L A L') (r:List HA):Del (L++r) A (L'++r):=by
  induction h with
  | z=>exact .z
  | s _ ih=>exact .s ih
theorem Sym.unfoldL {A:HA} (h:Sym w0 M I0 I (A :: m) w) {X:Prop} (g:∀ k,A.holds I k→∃ L:List HA,MQ L I k∧(Sym w0 M I0 I (L++m) w→X)):X:=by
  obtain ⟨hb,hi,hn,k,⟨h1,h2,hd',hl1,hl2,ha,hs'⟩,hk,hdj,hm⟩:=h
  obtain ⟨L,hL,hX⟩:=g h1 ha
  exact hX ⟨hb,hi,hn,k,MD.2 ⟨h1,h2,hd',hl1,hl2,hL,hs'⟩,hk,hdj,hm⟩
theorem Sym.foldL {A:HA} {L:List HA} (h:Sym w0 M I0 I (L++m) w) (g:∀ k,MQ L I k→A.holds I k):Sym w0 M I0 I (A :: m) w:=by
  obtain ⟨hb,hi,hn,k,hs,hk,hdj,hm⟩:=h
  obtain ⟨h1,h2,hd',hl1,hl2,ha,hs'⟩:=MD.1 hs
  exact ⟨hb,hi,hn,k,⟨h1,h2,hd',hl1,hl2,g h1 ha,hs'⟩,hk,hdj,hm⟩
theorem Sym.foldL2 {A B:HA} {L:List HA} (h:Sym w0 M I0 I (A :: (L++m)) w) (g:∀ k,MQ L I k→B.holds I k):Sym w0 M I0 I (A :: B :: m) w:=by
  obtain ⟨hb,hi,hn,k,⟨h1,h2,hd',hl1,hl2,ha,hs'⟩,hk,hdj,hm⟩:=h
  obtain ⟨h3,h4,hd3,hl3,hl4,hb',hm'⟩:=MD.1 hs'
  exact ⟨hb,hi,hn,k,⟨h1,h2,hd',hl1,hl2,ha,h3,h4,hd3,hl3,hl4,g h3 hb',hm'⟩,hk,hdj,hm⟩
theorem Y7 {hs:List (Option Addr×Nat)} {v:Nat} {p:Option Addr×Nat} {x:List α} (h:hs[v]? = some p) (h':xss[v]? = some x):(PH hs xss)[v]? = some (p.1,x.length,p.2):=by
  unfold PH; rw [List.getElem?_zipWith,h,h']
theorem iJ {hs:List (Option Addr×Nat)} {v:Nat} {p:Option Addr×Nat} {x:List α} (h:hs[v]? = some p) (h':xss[v]? = some x):(OA El T hs xss)[v]? = some (OwnSl El T p.1 p.2 x):=by
  unfold OA; rw [List.getElem?_zipWith,h,h']
theorem nZ {α β γ:Type} (f:α→β→γ):∀ (as:List α) (bs:List β) (v:Nat) (a:α) (b:β),List.zipWith f (as.set v a) (bs.set v b)=(List.zipWith f as bs).set v (f a b)
  | [],_,_,_,_=>by simp
  | _ :: _,[],v,_,_=>by cases v <;> simp
  | a :: as,b :: bs,0,_,_=>by simp
  | a :: as,b :: bs,v+1,x,y=>by simp [nZ f as bs v x y]
theorem lU {α:Type}:∀ (l:List α) (v:Nat) (a:α),(l.set v a).eraseIdx v=l.eraseIdx v
  | [],_,_=>by simp
  | _ :: _,0,_=>by simp
  | b :: l,v+1,a=>by simp [lU l v a]
theorem qW (El:EL α) (T:TypeId) (I:IH):∀ n:Nat,MQ (OA El T (List.replicate n (none,0)) (List.replicate n [])) I (fun _=>none)
  | 0=>trivial
  | n+1=>⟨fun _=>none,fun _=>none,fun _=>.inl rfl,IH.le.refl _,IH.le.refl _,.inl ⟨rfl,rfl,rfl⟩,qW El T I n⟩
theorem Sym.toNest {k:Nat} (h:Sym w0 M I0 I (OwnSl iI e a cap (List.replicate k (none,0,0)) :: m) w):Sym w0 M I0 I (IK El T e a cap (List.replicate k []) :: m) w:=by
  refine h.weaken fun q hq=>⟨List.replicate k (none,0),by simp,q,fun _=>none,fun _=>.inr rfl,IH.le.refl _,(fun _ _ x=>nomatch x),?_,qW El T I k⟩
  have:PH (List.replicate k ((none:Option Addr),0)) (List.replicate k ([]:List α))=List.replicate k (none,0,0):=by unfold PH; rw [List.zipWith_replicate,Nat.min_self]; rfl
  rw [this]; exact hq
theorem AeB:∀ {L:List HA} {I k:IH} {i:Nat} {A:HA},MQ L I k→L[i]? = some A→∃ h,h.le k∧A.holds I h:=fun hs hi=>by
  obtain ⟨h1,h2,_,hl1,_,ha,_⟩:=aL (gK hi) hs
  exact ⟨h1,hl1,ha⟩
theorem OwnSl.imm {J h:IH} {xs:List α} (ha:(OwnSl El T a cap xs).holds I h) (hle:I.le J) (hk:h.le J):RepSl El J a cap xs:=by
  rcases ha with ⟨_,h2,_⟩ | ⟨b,c,h1,h2,h3,h4,h5⟩
  · subst h2; exact .nil _ _ _
  · refine ⟨h3,fun i x hx=>?_⟩
    obtain ⟨cs,g1,g2⟩:=h5 i x hx
    exact ⟨b,0,cs,h1,⟨c,T,(0,0),hk _ _ h2,fun j v hj=>by rw [Nat.zero_add]; exact g2 j v hj⟩,El.mono hle g1⟩
theorem Sym.pubNest (h:Sym w0 M I0 I m w) (hA:Del m (IK El T e a cap xss) m'):∃ I',I.le I'∧RepSl (MR El) I' a cap xss∧Sym w0 M I0 I' m' w:=by
  obtain ⟨I',k,hle,⟨hs,hl,h1,h2,hd,hl1,hl2,ha,hin⟩,hk,hs'⟩:=(h.del hA).publish
  have ho:=OwnSl.imm ha hle (hl1.trans hk)
  have hlen:(PH hs xss).length=xss.length:=by unfold PH; rw [List.length_zipWith,hl,Nat.min_self]
  refine ⟨I',hle,⟨by have:=ho.1; omega,fun i x hx=>?_⟩,hs'⟩
  have hv:i<hs.length:=by rw [hl]; exact (List.getElem?_eq_some_iff.1 hx).1
  have hp:hs[i]? = some hs[i]:=List.getElem?_eq_getElem hv
  obtain ⟨b,off,cs,g1,g2,g3⟩:=ho.2 i _ (Y7 hp hx)
  obtain ⟨q,hq1,hq2⟩:=AeB hin (iJ (El:=El) (T:=T) hp hx)
  exact ⟨b,off,cs,g1,g2,hs[i].1,hs[i].2,g3,OwnSl.imm hq2 hle (hq1.trans (hl2.trans hk))⟩
theorem Sym.nestNe (h:Sym w0 M I0 I m w) (hA:Del m (IK El T e a cap xss) m') (hne:xss≠[]):∃ b,a=some ⟨b,0,none⟩:=by
  obtain ⟨k,⟨hs,hl,h1,h2,hd,hl1,hl2,ha,hin⟩,_⟩:=(h.del hA).get
  rcases ha with ⟨_,h3,_⟩ | ⟨b,c,h3,_⟩
  · exfalso
    have hlen:(PH hs xss).length=xss.length:=by unfold PH; rw [List.length_zipWith,hl,Nat.min_self]
    rw [h3] at hlen
    exact hne (List.length_eq_zero_iff.1 hlen.symm)
  · exact ⟨b,h3⟩
theorem Ops.toNest (El:EL α) (T:TypeId) {k:Nat} (hA:Del m (OwnSl iI e a cap (List.replicate k (none,0,0))) m') (g:Ops P ops l n E (Sym w0 M I0 I (IK El T e a cap (List.replicate k []) :: m')) Q):Ops P ops l n E (Sym w0 M I0 I m) Q:=
  fun c w ho hs=>g c w ho (hs.del hA).toNest
theorem Ops.nestNe (hA:Del m (IK El T e a cap xss) m') (hne:xss≠[]) (k:∀ b,a=some ⟨b,0,none⟩→Ops P ops l n E (Sym w0 M I0 I m) Q):Ops P ops l n E (Sym w0 M I0 I m) Q:=
  fun c w ho hs=>by
    obtain ⟨b,hb⟩:=hs.nestNe hA hne
    exact k b hb c w ho hs
theorem Ops.pubNest (hA:Del m (IK El T e a cap xss) m') (k:∀ I',I.le I'→RepSl (MR El) I' a cap xss→Ops P ops l n E (Sym w0 M I0 I' m') Q):Ops P ops l n E (Sym w0 M I0 I m) Q:=
  fun c w ho hs=>by obtain ⟨I',h1,h2,h3⟩:=hs.pubNest hA; exact k I' h1 h2 c w ho h3
theorem Cod.pubNest {c:Code} (hA:Del m (IK El T e a cap xss) m') (k:∀ I',I.le I'→RepSl (MR El) I' a cap xss→Cod P c n E (Sym w0 M I0 I' m') Q):Cod P c n E (Sym w0 M I0 I m) Q:=
  fun c w ho hs=>by obtain ⟨I',h1,h2,h3⟩:=hs.pubNest hA; exact k I' h1 h2 c w ho h3
def Ag8 (hds:List Hd) (xss:List (List α)):Prop:=hds.length=xss.length∧∀ (i:Nat) (x:List α),xss[i]? = some x→∃ p c,hds[i]? = some (p,x.length,c)
def aW (El:EL α) (T:TypeId) (hds:List Hd) (xss:List (List α)):HA where
  holds I h:=∃ hs:List (Option Addr×Nat),hs.length=xss.length∧hds=PH hs xss∧MQ (OA El T hs xss) I h
  mono:=fun hI hh ⟨hs,h1,h2,h3⟩=>⟨hs,h1,h2,KJ hI hh h3⟩
def VD (El:EL α) (T:TypeId) (hds:List Hd) (xss:List (List α)) (v:Nat):HA where
  holds I h:=∃ hs:List (Option Addr×Nat),hs.length=xss.length∧hds=PH hs xss∧MQ ((OA El T hs xss).eraseIdx v) I h
  mono:=fun hI hh ⟨hs,h1,h2,h3⟩=>⟨hs,h1,h2,KJ hI hh h3⟩
theorem Aa1 {hs:List (Option Addr×Nat)} (hl:hs.length=xss.length):(PH hs xss).length=xss.length:=by unfold PH; rw [List.length_zipWith,hl,Nat.min_self]
theorem Sym.nestX (h:Sym w0 M I0 I (IK El T e a cap xss :: m) w):∃ hds,Ag8 hds xss∧Sym w0 M I0 I (OwnSl iI e a cap hds :: aW El T hds xss :: m) w:=by
  refine h.unfoldL fun k ⟨hs,hl,hsep⟩=>⟨_,hsep,fun h'=>⟨PH hs xss,⟨Aa1 hl,fun i x hx=>?_⟩,h'.foldL2 (L:=OA El T hs xss) fun k hk=>⟨hs,hl,rfl,hk⟩⟩⟩
  have hv:i<hs.length:=by rw [hl]; exact (List.getElem?_eq_some_iff.1 hx).1
  exact ⟨_,_,Y7 (List.getElem?_eq_getElem hv) hx⟩
theorem Sym.nestF {hds:List Hd} {v:Nat} {x:List α} {p:Option Addr} {k c:Nat} (h:Sym w0 M I0 I (aW El T hds xss :: m) w) (hx:xss[v]? = some x) (hc:hds[v]? = some (p,k,c)):Sym w0 M I0 I (OwnSl El T p c x :: VD El T hds xss v :: m) w:=by
  refine h.unfoldL fun _ ⟨hs,hl,he,hsep⟩=>⟨_,hsep,fun h'=>?_⟩
  have hv:v<hs.length:=by rw [hl]; exact (List.getElem?_eq_some_iff.1 hx).1
  have hp:hs[v]? = some hs[v]:=List.getElem?_eq_getElem hv
  have hg:=Y7 hp hx
  rw [←he,hc,Option.some.injEq,Prod.mk.injEq,Prod.mk.injEq] at hg
  have hd:=xV (gK (iJ (El:=El) (T:=T) hp hx)) m
  have h2:=h'.del hd
  rw [←hg.1,←hg.2.2] at h2
  exact h2.foldL2 fun k hk=>⟨hs,hl,he,hk⟩
theorem Sym.nestPut {hds:List Hd} {v b:Nat} {x x':List α} {p':Option Addr} {c':Nat} (h:Sym w0 M I0 I (OwnSl iI e (some ⟨b,0,none⟩) cap hds :: OwnSl El T p' c' x' :: VD El T hds xss v :: m) w) (hx:xss[v]? = some x) :
    ∃ w',(storeCells ⟨b,v,none⟩ [.slice p' x'.length c']).run P w=.ok () w'∧Sym w0 M I0 I (IK El T e (some ⟨b,0,none⟩) cap (xss.set v x') :: m) w':=by
  have h1:Sym w0 M I0 I (VD El T hds xss v :: OwnSl iI e (some ⟨b,0,none⟩) cap hds :: OwnSl El T p' c' x' :: m) w:=h.del (.s (.s .z))
  refine h1.unfoldL fun k ⟨hs,hl,he,hsep⟩=>⟨_,hsep,fun h'=>?_⟩
  subst he
  have hvx:v<xss.length:=(List.getElem?_eq_some_iff.1 hx).1
  have hp:hs[v]? = some hs[v]:=List.getElem?_eq_getElem (by omega)
  have dl:∀ (L:List HA) (A:HA) (r:List HA),Del (L++A :: r) A (L++r):=fun L A r=>by
    induction L with
    | nil=>exact .z
    | cons B L ih=>exact .s ih
  have h2:=h'.del (dl _ _ _)
  obtain ⟨w',hr,hs'⟩:=OwnSl.put (P:=P) (j:=0) (v':=(p',x'.length,c')) (vs:=[.slice p' x'.length c']) h2 (Y7 hp hx) (fun cs hcs=>by cases hcs; exact ⟨_,.t .nil,rfl⟩) rfl
  have hr:(storeCells ⟨b,v*1+0,none⟩ [.slice p' x'.length c']).run P w=.ok () w':=hr
  rw [Nat.mul_one,Nat.add_zero] at hr
  refine ⟨w',hr,?_⟩
  have hlen:(OA El T hs xss).length=xss.length:=by unfold OA; rw [List.length_zipWith,hl,Nat.min_self]
  have hget:((OA El T hs xss).set v (OwnSl El T p' c' x'))[v]? = some (OwnSl El T p' c' x'):=by rw [List.getElem?_set_self (by omega)]
  have hd:=xV (gK hget) m
  rw [lU] at hd
  have h3:=hs'.del (.s (dl _ _ _))
  have h4:Sym w0 M I0 I ((OwnSl iI e (some ⟨b,0,none⟩) cap ((PH hs xss).set v (p',x'.length,c')) :: (OA El T hs xss).set v (OwnSl El T p' c' x'))++m) w':=h3.undel (.s hd)
  refine h4.foldL fun k hk=>⟨hs.set v (p',c'),by simp [hl],?_⟩
  have e1:PH (hs.set v (p',c')) (xss.set v x')=(PH hs xss).set v (p',x'.length,c'):=nZ (fun (p:Option Addr×Nat) (xs:List α)=>((p.1,xs.length,p.2):Hd)) hs xss v (p',c') x'
  have e2:OA El T (hs.set v (p',c')) (xss.set v x')=(OA El T hs xss).set v (OwnSl El T p' c' x'):=nZ (fun (p:Option Addr×Nat) xs=>OwnSl El T p.1 p.2 xs) hs xss v (p',c') x'
  rw [e1,e2]; exact hk
theorem Ops.nestX (hA:Del m (IK El T e a cap xss) m') (k:∀ hds,Ag8 hds xss→Ops P ops l n E (Sym w0 M I0 I (OwnSl iI e a cap hds :: aW El T hds xss :: m')) Q):Ops P ops l n E (Sym w0 M I0 I m) Q:=
  fun c w ho hs=>by obtain ⟨hds,h1,h2⟩:=(hs.del hA).nestX; exact k hds h1 c w ho h2
theorem Cod.nestX {c:Code} (hA:Del m (IK El T e a cap xss) m') (k:∀ hds,Ag8 hds xss→Cod P c n E (Sym w0 M I0 I (OwnSl iI e a cap hds :: aW El T hds xss :: m')) Q):Cod P c n E (Sym w0 M I0 I m) Q:=
  fun a w ho hs=>by obtain ⟨hds,h1,h2⟩:=(hs.del hA).nestX; exact k hds h1 a w ho h2
theorem Cod.nestN {c:Code} (hA:Del m (IK El T e a cap xss) m') (k:(xss≠[]→∃ b,a=some ⟨b,0,none⟩)→Cod P c n E (Sym w0 M I0 I m) Q):Cod P c n E (Sym w0 M I0 I m) Q:=
  fun a w ho hs=>k (fun hne=>hs.nestNe hA hne) a w ho hs
theorem Ops.nestN (hA:Del m (IK El T e a cap xss) m') (k:(xss≠[]→∃ b,a=some ⟨b,0,none⟩)→Ops P ops l n E (Sym w0 M I0 I m) Q):Ops P ops l n E (Sym w0 M I0 I m) Q:=
  fun c w ho hs=>k (fun hne=>hs.nestNe hA hne) c w ho hs
theorem Ops.nestF {hds:List Hd} {v:Nat} {z:List α} {p:Option Addr} {k c:Nat} (hA:Del m (aW El T hds xss) m') (hz:xss[v]? = some z) (hc:hds[v]? = some (p,k,c)) (g:Ops P ops l n E (Sym w0 M I0 I (OwnSl El T p c z :: VD El T hds xss v :: m')) Q):Ops P ops l n E (Sym w0 M I0 I m) Q:=
  Ops.pre (fun _ h=>(h.del hA).nestF hz hc) g
theorem Ops.nestSt {T':TypeId} {b o v k:Nat} {z z':List α} {hds:List Hd} {p':Option Addr} {c' v':Nat} {m1 m2 m3:List HA} (hS:∀ w,(sizeOf T').run P w=.ok 1 w) (hB:Del m (VD El T hds xss v') m1) (hv:v'=v) (hA:Del m1 (OwnSl El T p' c' z') m2) (hH:Del m2 (OwnSl iI e (some ⟨b,0,none⟩) cap hds) m3) (hz:xss[v]? = some z)
    (hx:ev E x=some (.pointer (some ⟨b,o,none⟩))) (ho:o=v*1) (hy:ev E y=some (.slice p' k c')) (hk:k=z'.length) (g:Ops P ops l n E (Sym w0 M I0 I (IK El T e (some ⟨b,0,none⟩) cap (xss.set v z') :: m3)) Q) :
    Ops P ops (⟨none,.store T' x y,ty,pos,af,none⟩ :: l) n E (Sym w0 M I0 I m) Q:=
  Ops.act rfl rfl (fun cc w hc hs=>by
    subst ho hk hv
    obtain ⟨w',hr,hs'⟩:=Sym.nestPut (P:=P) ((((hs.del hB).del (.s hA)).del (.s (.s hH))).del (.s (.s .z)) |>.undel (.s (.s .z))) hz
    refine ⟨w',?_,hs'⟩
    rw [Nat.mul_one] at hx
    have hr':(storeCells ⟨b,v',none⟩ [.slice p' z'.length c']).run P w=.ok () w':=hr
    have hc':(Value.slice p' z'.length c').cells = #[.slice p' z'.length c']:=rfl
    simp [execOp,hc.eval hx,hc.eval hy,Instr.storeAt,Instr.sureAddr,storeVar,hS,hc',hr']) g
end Go.Fw
