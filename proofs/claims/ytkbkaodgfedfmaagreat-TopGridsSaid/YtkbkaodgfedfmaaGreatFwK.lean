/- The engine. -/
import Derived.Test.YtkbkaodgfedfmaaGreatFwW
import Derived.Sort.LoopGhostIn
namespace Go.Fw
open Go Go.RowKit
variable {w0 w:World} {M:Nat→Prop} {I0 I:IH} {m m':List HA}
variable {P:Program} {n:FrK} {E:CZ} {S:World→Prop} {Q:Exit→Act→World→Prop} {ops:Array Oper} {l:List Oper}
variable {d ty:Nat} {pos:String} {af:Array Edge} {T e:TypeId} {x y:Operand} {α:Type}
variable {ψ:IH→Value→List HA→Prop}
structure BoxTy (α:Type) where
 A:Type
 fact:IH→A→α→Prop
 mono:∀ {I J:IH} {a:A} {x:α},I.le J→fact I a x→fact J a x
 obj:A→α→Obj
 more:A→α→List HA
def BoxTy.at (B:BoxTy α) (b:Nat) (x:α):HA where
 holds I h:=∃ a,B.fact I a x∧QI (pto b (B.obj a x) :: B.more a x) I h
 mono:=λhI hh ⟨a,h1,h2⟩=>⟨a,B.mono hI h1,RV hI hh h2⟩
def BL (B:BoxTy α) (xs:List (Nat×α)):HA where
 holds I h:=QI (xs.map λp=>B.at p.1 p.2) I h
 mono:=λhI hh h=>RV (l:=xs.map λp=>B.at p.1 p.2) hI hh h
abbrev mkA (o:Option Nat):Option Addr:=o.map λb=>⟨b,0,none⟩
abbrev AgT:EP (Int×Int):=KK 2 (λx=>[.int .i64 x.1,.int .i64 x.2]) (λ_=>⟨rfl,rfl⟩)
abbrev IB:EP (Option Nat):=KK 1 (λo=>[.pointer (mkA o)]) (λ_=>⟨rfl,rfl⟩)
def AlL (xs:List (Nat×α)) (K:Nat->Prop):Prop:=∀ b,B9 b xs=none->K b
def qT (xs:List (Nat×α)) (b:Nat) (K:α->Prop):Prop:=∃ x,B9 b xs=some x∧K x
def nP (t:Option Nat) (A:Prop) (B:Nat->Prop):Prop:=(t=none->A)∧∀ b,t=some b->B b
variable {B:BoxTy α} {xs ys:List (Nat×α)} {b:Nat} {z:α}
theorem cZ:∀ {xs:List (Nat×α)},B9 b xs=some z->∃ J D,xs=J++(b,z) :: D∧F5 b xs=J++D
 | p :: r,h=>by
  unfold B9 at h;unfold F5;split at h
  . rename_i e;subst e;cases h;rw[if_pos rfl];exact⟨[],r,rfl,rfl⟩
  . rename_i e;rw[if_neg e];obtain⟨J,D,O,K⟩:=cZ h;exact⟨p :: J,D,by rw[O]; rfl,by rw[K]; rfl⟩
theorem ZY {α:Type} {A:α}:∀ {D h:List HA} {A:HA},Del (D++A :: h) A (D++h)
 | [],_,_=>.z
 | _ :: _,_,_=>.s (ZY (α:=α) (A:=A))
theorem Sym.bankAt (h:Sym w0 M I0 I (BL B xs :: m) w) (U:B9 b xs=some z):Sym w0 M I0 I (B.at b z :: BL B (F5 b xs) :: m) w:=by
 obtain⟨l1,l2,J,D⟩:=cZ U;refine h.unfoldL λk hk=>⟨_,hk,λO=>?_⟩
 have K:Del ((xs.map λp=>B.at p.1 p.2)++m) (B.at b z) (((F5 b xs).map λp=>B.at p.1 p.2)++m):=by rw[D,J,List.map_append,List.map_cons,List.map_append,List.append_assoc,List.append_assoc];exact ZY (α:=Nat) (A:=0)
 exact(O.del K).foldL2 λk hk=>hk
theorem Sym.bankIn (h:Sym w0 M I0 I (B.at b z :: BL B ys :: m) w):Sym w0 M I0 I (BL B ((b,z) :: ys) :: m) w:=by have K:Sym w0 M I0 I (BL B ys :: B.at b z :: m) w:=h.del (.s .z);refine K.unfoldL λk hk=>⟨_,hk,λO=>?_⟩;have D:Del ((ys.map λp=>B.at p.1 p.2)++B.at b z :: m) (B.at b z) ((ys.map λp=>B.at p.1 p.2)++m):=ZY (α:=Nat) (A:=0);have J:Sym w0 M I0 I ((((b,z) :: ys).map λp=>B.at p.1 p.2)++m) w:=O.del D;exact J.foldL λk hk=>hk
theorem Sym.bankBack (h:Sym w0 M I0 I (B.at b z :: BL B (F5 b xs) :: m) w) (W:B9 b xs=some z):Sym w0 M I0 I (BL B xs :: m) w:=by
 obtain⟨l1,l2,O,K⟩:=cZ W;have J:Sym w0 M I0 I (BL B (F5 b xs) :: B.at b z :: m) w:=h.del (.s .z);refine J.unfoldL λk hk=>⟨_,hk,λZ=>?_⟩;have U:Del (((F5 b xs).map λp=>B.at p.1 p.2)++B.at b z :: m) (B.at b z) (((F5 b xs).map λp=>B.at p.1 p.2)++m):=ZY (α:=Nat) (A:=0);have V:=Z.del U
 have D:Del ((xs.map λp=>B.at p.1 p.2)++m) (B.at b z) (((F5 b xs).map λp=>B.at p.1 p.2)++m):=by rw[K,O,List.map_append,List.map_cons,List.map_append,List.append_assoc,List.append_assoc];exact ZY (α:=Nat) (A:=0)
 exact(V.undel D).foldL λk hk=>hk
theorem Sym.boxO (h:Sym w0 M I0 I (B.at b z :: m) w):∃ a,B.fact I a z∧Sym w0 M I0 I (Fw.pto b (B.obj a z) :: (B.more a z++m)) w:=by refine h.unfoldL λk ⟨a,D,hk⟩=>⟨_,hk,λJ=>⟨a,D,J⟩⟩
theorem Sym.boxC {a:B.A} (D:B.fact I a z) (h:Sym w0 M I0 I (Fw.pto b (B.obj a z) :: (B.more a z++m)) w):Sym w0 M I0 I (B.at b z :: m) w:=
 Sym.foldL (L:=Fw.pto b (B.obj a z) :: B.more a z) h λ_ hk=>⟨a,D,hk⟩
theorem Sym.fresh {o:Obj} (h:Sym w0 M I0 I (Fw.pto b o :: BL B ys :: m) w):B9 b ys=none:=by
 cases hg:B9 b ys with
 | none=>rfl
 | some z=>
  exfalso;have h1:=(h.del (.s .z)).bankAt hg;obtain⟨a,_,h2⟩:=h1.boxO
  have hd:Del (Fw.pto b (B.obj a z) :: (B.more a z++BL B (F5 b ys) :: Fw.pto b o :: m)) (Fw.pto b o) (Fw.pto b (B.obj a z) :: (B.more a z++BL B (F5 b ys) :: m)):=by refine .s ?_;have:=@ZY Nat 0 (B.more a z++[BL B (F5 b ys)]) m (Fw.pto b o);simpa using this
  have U:=h2.del hd;obtain⟨k,hk,_⟩:=U.own;obtain⟨W,O,J,_,_,ha,k3,k4,_,K,_,V,_⟩:=hk;have e1:W b=some o:=ha;have Z:O b=some (B.obj a z):=K _ _ V;rcases J b with D | D
  . rw[e1] at D; cases D
  . rw[Z] at D; cases D
theorem Sym.bank0 (B:BoxTy α) (h:Sym w0 M I0 I m w):Sym w0 M I0 I (BL B [] :: m) w:=Sym.foldL (L:=[]) h λ_ _=>trivial
theorem AgU {mf mr:List HA} (h:Sym w0 M I0 I m w) (D:Outs m mf mr):Sym w0 M I0 I (mf++mr) w:=h.perm D.perm
theorem Cod.bank0 {c:Code} (B:BoxTy α) (g:Cod P c n E (Sym w0 M I0 I (BL B [] :: m)) Q):Cod P c n E (Sym w0 M I0 I m) Q:=Cod.pre (λ_ h=>h.bank0 B) g
theorem Ops.bankP {mr:List HA} (a:B.A) (z:α) (K:B.fact I a z) (U:Outs m (pto b (B.obj a z) :: (B.more a z++[BL B ys])) mr) (g:B9 b ys=none->Ops P ops l n E (Sym w0 M I0 I (BL B ((b,z) :: ys) :: mr)) Q):Ops P ops l n E (Sym w0 M I0 I m) Q:=
 λc w D h=>by
  have V:=AgU h U;have J:Sym w0 M I0 I (Fw.pto b (B.obj a z) :: (B.more a z++BL B ys :: mr)) w:=by simpa using V
  have O:Sym w0 M I0 I (Fw.pto b (B.obj a z) :: BL B ys :: (B.more a z++mr)) w:=by refine J.perm (List.Perm.cons _ ?_);exact List.perm_middle
  exact g O.fresh c w D (J.boxC K).bankIn
theorem AbA (t:Option Nat):(mkA t).isNone=t.isNone:=by cases t <;> rfl
theorem Ops.eqNilH {t:Option Nat} {O:TypeId} {u:TypeId} (D:P.underlying T=some (.pointer u)) (U:ev E x=some (.pointer (mkA t))) (K:ev E y=some (.pointer none)) (h:Nat.blt d n.sz=true) (J:fresh E d=true)
 (k:Ops P ops l n ((d,.bool t.isNone) :: E) S Q):Ops P ops (⟨some d,.binOp .eql T x y O,ty,pos,af,none⟩ :: l) n E S Q:=Ops.eqNilP D U K h J (by rw[AbA]; exact k)
theorem Fun.frame {f:FuncId} {args:Array Value} {φ:IH->Value->List HA->Prop} {k r:List HA} (Z:Fun P f args I k φ):Fun P f args I (k++r) λJ v O=>∃ U,O=U++r∧φ J v U:=by intro w h hi W hk hd;refine Z.use (Fun.start hi W hk hd) λv J O w' D V K=>?_;exact⟨v,J,_,rfl,D,⟨O,rfl,V⟩,K⟩
theorem Fun.conseq {f:FuncId} {args:Array Value} {φ:IH->Value->List HA->Prop} {k:List HA} (W:Fun P f args I k φ) (h:∀ J v K,I.le J->φ J v K->ψ J v K):Fun P f args I k ψ:=by intro w h1 hi V hk hd;refine(W w h1 hi V hk hd).mono λe w'=>?_;rintro⟨v,J,K,Z,D,U,O⟩;exact⟨v,J,K,Z,D,h _ _ _ D U,O⟩
theorem Fun.bank {f:FuncId} {args:Array Value} {φ:B.A->IH->Value->List HA->Prop} {k:List HA} (hx:B9 b xs=some z)
  (hw:∀ a,B.fact I a z->Fun P f args I (pto b (B.obj a z) :: (B.more a z++k)) (φ a))
  (h:∀ a D v V,I.le D->φ a D v V->∃ (K:B.A) (J:α) (O:List HA),V=pto b (B.obj K J) :: (B.more K J++O)∧B.fact D K J∧ψ D v (BL B ((b,J) :: F5 b xs) :: O)):Fun P f args I (BL B xs :: k) ψ:=by
 intro w h1 hi hs hk hd;have hst:=Fun.start hi hs hk hd;obtain⟨a,hf,h2⟩:=(hst.bankAt hx).boxO
 have h3:Sym w (λb=>h1 b≠none) I I ((Fw.pto b (B.obj a z) :: (B.more a z++k))++[BL B (F5 b xs)]) w:=by refine h2.perm ?_;rw[List.cons_append,List.append_assoc];exact List.Perm.cons _ (List.Perm.append_left _ (List.perm_append_comm (l₁:=[BL B (F5 b xs)]) (l₂:=k)))
 refine(hw a hf).use h3 λv D V w' U hφ Z=>?_;obtain⟨K,J,O,rfl,W,hψ⟩:=h a D v V U hφ;refine⟨v,D,_,rfl,U,hψ,?_⟩
 have h4:Sym w (λb=>h1 b≠none) I D (Fw.pto b (B.obj K J) :: (B.more K J++BL B (F5 b xs) :: O)) w':=by refine Z.perm ?_;rw[List.cons_append,List.append_assoc];exact List.Perm.cons _ (List.Perm.append_left _ (List.perm_append_comm (l₁:=O) (l₂:=[BL B (F5 b xs)])))
 exact(h4.boxC W).bankIn
theorem Fun.bankR {f:FuncId} {args:Array Value} {φ:B.A->IH->Value->List HA->Prop} {k:List HA} (hx:B9 b xs=some z)
  (hw:∀ a,B.fact I a z->Fun P f args I (pto b (B.obj a z) :: (B.more a z++k)) (φ a))
  (h:∀ a D v U,I.le D->B.fact I a z->φ a D v U->∃ (J:B.A) (K:List HA),U=pto b (B.obj J z) :: (B.more J z++K)∧B.fact D J z∧ψ D v (BL B xs :: K)):Fun P f args I (BL B xs :: k) ψ:=by
 intro w h1 hi hs hk hd;have Z:=Fun.start hi hs hk hd;obtain⟨a,hf,h2⟩:=(Z.bankAt hx).boxO
 have h3:Sym w (λb=>h1 b≠none) I I ((Fw.pto b (B.obj a z) :: (B.more a z++k))++[BL B (F5 b xs)]) w:=by refine h2.perm ?_;rw[List.cons_append,List.append_assoc];exact List.Perm.cons _ (List.Perm.append_left _ (List.perm_append_comm (l₁:=[BL B (F5 b xs)]) (l₂:=k)))
 refine(hw a hf).use h3 λv D U w' O hφ W=>?_;obtain⟨J,K,rfl,V,hψ⟩:=h a D v U O hf hφ;refine⟨v,D,_,rfl,O,hψ,?_⟩
 have h4:Sym w (λb=>h1 b≠none) I D (Fw.pto b (B.obj J z) :: (B.more J z++BL B (F5 b xs) :: K)) w':=by refine W.perm ?_;rw[List.cons_append,List.append_assoc];exact List.Perm.cons _ (List.Perm.append_left _ (List.perm_append_comm (l₁:=K) (l₂:=[BL B (F5 b xs)])))
 exact(h4.boxC V).bankBack hx
theorem Ops.callPc {x:Operand} {g:FuncId} {args:List Operand} {vs:List Value} {D:Array TypeId} {ψ:Value->Prop} (hg:∀ as w,(callFunc g as).run P w=.ok (.enter g as) w)
  (hx:ev E x=some (.func (.func g) #[] #[])) (ha:xG E args=some vs) (Z:AY P g vs I λ_=>ψ) (hb:Nat.blt d n.sz=true) (U:fresh E d=true)
  (k:∀ v,ψ v->Ops P ops l n ((d,v) :: E) (Sym w0 M I0 I m) Q) :
  Ops P ops (⟨some d,.call ⟨.value x,args.toArray,D⟩,ty,pos,af,none⟩ :: l) n E (Sym w0 M I0 I m) Q:=by
 intro c w J V;refine wpListIn_plain rfl λK hK=>?_;have W:=Enters.c (n:=n) (S:=λ_=>True) hg hx ha (some d) D ty pos af c w J trivial;simp only[List.nil_append,List.append_nil] at W;refine eV W (by simp) ?_;simp only[Oper.uponIn];refine⟨λh=>(by cases h),jB ((Z w (λ_=>none) V.imm trivial (λ_ _ x=>nomatch x) (λ_=>.inr rfl)).mono λe w' O=>?_)⟩;obtain⟨v,J',l',rfl,_,⟨_,hψ⟩,hs'⟩:=O;exact hK _ _ (k v hψ _ _ (J.put hb U v) (V.grown ⟨hs'.base.os,hs'.base.tape,hs'.base.output,hs'.base.drawn,hs'.base.size,λb h1 _=>hs'.base.block b h1 (by simp)⟩))
end Go.Fw
