/- The engine. -/
import Derived.Test.YtbohadngdkjljaaGreatFwW
import Derived.Sort.LoopGhostIn
namespace Go.Fw
open Go Go.RowKit
variable {w0 w:World} {M:Nat→Prop} {I0 I:IH} {m m':List HA}
variable {P:Program} {n:FrK} {E:D7} {S:World→Prop} {Q:Exit→Act→World→Prop} {ops:Array Oper} {l:List Oper}
variable {d ty:Nat} {pos:String} {af:Array Edge} {T e:TypeId} {x y:Operand} {α:Type}
variable {ψ:IH→Value→List HA→Prop}
structure BoxTy (α:Type) where
 A:Type
 fact:IH→A→α→Prop
 mono:∀ {I J:IH} {a:A} {x:α},I.le J→fact I a x→fact J a x
 obj:A→α→Obj
 more:A→α→List HA
def BoxTy.at (B:BoxTy α) (b:Nat) (x:α):HA where
 holds I h:=∃ a,B.fact I a x∧OV (pto b (B.obj a x) :: B.more a x) I h
 mono:=fun hI hh ⟨a,h1,h2⟩=>⟨a,B.mono hI h1,PN hI hh h2⟩
def AW (B:BoxTy α) (xs:List (Nat×α)):HA where
 holds I h:=OV (xs.map fun p=>B.at p.1 p.2) I h
 mono:=fun hI hh h=>PN (l:=xs.map fun p=>B.at p.1 p.2) hI hh h
abbrev eJ (o:Option Nat):Option Addr:=o.map fun b=>⟨b,0,none⟩
abbrev D6:ET (Option Nat):=IF 1 (fun o=>[.pointer (eJ o)]) (fun _=>⟨rfl,rfl⟩)
def CJ (xs:List (Nat×α)) (t:Option Nat) (K:Nat→α→Prop):Prop:=∃ b x,t=some b∧BK b xs=some x∧K b x
def AaI (xs:List (Nat×α)) (K:Nat→Prop):Prop:=∀ b,BK b xs=none→K b
def ZH (xs:List (Nat×α)) (b:Nat) (K:α→Prop):Prop:=∃ x,BK b xs=some x∧K x
def YE (t:Option Nat) (A:Prop) (B:Nat→Prop):Prop:=(t=none→A)∧∀ b,t=some b→B b
variable {B:BoxTy α} {xs ys:List (Nat×α)} {b:Nat} {z:α}
theorem YF:∀ {xs:List (Nat×α)},BK b xs=some z→∃ G D,xs=G++(b,z) :: D∧BO b xs=G++D
 | p :: r,h=>by
  unfold BK at h
  unfold BO
  split at h
  · rename_i e
    subst e
    cases h
    rw [if_pos rfl]
    exact ⟨[],r,rfl,rfl⟩
  · rename_i e
    rw [if_neg e]
    obtain ⟨G,D,O,J⟩:=YF h
    exact ⟨p :: G,D,by rw [O]; rfl,by rw [J]; rfl⟩
theorem WQ {α:Type} {A:α}:∀ {D h:List HA} {A:HA},Del (D++A :: h) A (D++h)
 | [],_,_=>.z
 | _ :: _,_,_=>.s (WQ (α:=α) (A:=A))
theorem Sym.bankAt (h:Sym w0 M I0 I (AW B xs :: m) w) (U:BK b xs=some z):Sym w0 M I0 I (B.at b z :: AW B (BO b xs) :: m) w:=by
 obtain ⟨l1,l2,J,O⟩:=YF U
 refine h.unfoldL fun k hk=>⟨_,hk,fun G=>?_⟩
 have D:Del ((xs.map fun p=>B.at p.1 p.2)++m) (B.at b z) (((BO b xs).map fun p=>B.at p.1 p.2)++m):=by
  rw [O,J,List.map_append,List.map_cons,List.map_append,List.append_assoc,List.append_assoc]
  exact WQ (α:=Nat) (A:=0)
 exact (G.del D).foldL2 fun k hk=>hk
theorem Sym.bankIn (h:Sym w0 M I0 I (B.at b z :: AW B ys :: m) w):Sym w0 M I0 I (AW B ((b,z) :: ys) :: m) w:=by
 have O:Sym w0 M I0 I (AW B ys :: B.at b z :: m) w:=h.del (.s .z)
 refine O.unfoldL fun k hk=>⟨_,hk,fun G=>?_⟩
 have D:Del ((ys.map fun p=>B.at p.1 p.2)++B.at b z :: m) (B.at b z) ((ys.map fun p=>B.at p.1 p.2)++m):=WQ (α:=Nat) (A:=0)
 have J:Sym w0 M I0 I ((((b,z) :: ys).map fun p=>B.at p.1 p.2)++m) w:=G.del D
 exact J.foldL fun k hk=>hk
theorem Sym.bankBack (h:Sym w0 M I0 I (B.at b z :: AW B (BO b xs) :: m) w) (W:BK b xs=some z):Sym w0 M I0 I (AW B xs :: m) w:=by
 obtain ⟨l1,l2,G,J⟩:=YF W
 have O:Sym w0 M I0 I (AW B (BO b xs) :: B.at b z :: m) w:=h.del (.s .z)
 refine O.unfoldL fun k hk=>⟨_,hk,fun D=>?_⟩
 have U:Del (((BO b xs).map fun p=>B.at p.1 p.2)++B.at b z :: m) (B.at b z) (((BO b xs).map fun p=>B.at p.1 p.2)++m):=WQ (α:=Nat) (A:=0)
 have Y:=D.del U
 have V:Del ((xs.map fun p=>B.at p.1 p.2)++m) (B.at b z) (((BO b xs).map fun p=>B.at p.1 p.2)++m):=by
  rw [J,G,List.map_append,List.map_cons,List.map_append,List.append_assoc,List.append_assoc]
  exact WQ (α:=Nat) (A:=0)
 exact (Y.undel V).foldL fun k hk=>hk
theorem Sym.boxO (h:Sym w0 M I0 I (B.at b z :: m) w):∃ a,B.fact I a z∧Sym w0 M I0 I (Fw.pto b (B.obj a z) :: (B.more a z++m)) w:=by
 refine h.unfoldL fun k ⟨a,G,hk⟩=>⟨_,hk,fun D=>⟨a,G,D⟩⟩
theorem Sym.boxC {a:B.A} (D:B.fact I a z) (h:Sym w0 M I0 I (Fw.pto b (B.obj a z) :: (B.more a z++m)) w):Sym w0 M I0 I (B.at b z :: m) w:=
 Sym.foldL (L:=Fw.pto b (B.obj a z) :: B.more a z) h fun _ hk=>⟨a,D,hk⟩
theorem Sym.fresh {o:Obj} (h:Sym w0 M I0 I (Fw.pto b o :: AW B ys :: m) w):BK b ys=none:=by
 cases hg:BK b ys with
 | none=>rfl
 | some z=>
  exfalso
  have W:=(h.del (.s .z)).bankAt hg
  obtain ⟨a,_,h2⟩:=W.boxO
  have Y:Del (Fw.pto b (B.obj a z) :: (B.more a z++AW B (BO b ys) :: Fw.pto b o :: m)) (Fw.pto b o) (Fw.pto b (B.obj a z) :: (B.more a z++AW B (BO b ys) :: m)):=by
    refine .s ?_
    have:=@WQ Nat 0 (B.more a z++[AW B (BO b ys)]) m (Fw.pto b o)
    simpa using this
  have h3:=h2.del Y
  obtain ⟨k,hk,_⟩:=h3.own
  obtain ⟨Z,k2,G,_,_,ha,k3,k4,_,J,_,O,_⟩:=hk
  have U:Z b=some o:=ha
  have V:k2 b=some (B.obj a z):=J _ _ O
  rcases G b with D | D
  · rw [U] at D; cases D
  · rw [V] at D; cases D
theorem Sym.bank0 (B:BoxTy α) (h:Sym w0 M I0 I m w):Sym w0 M I0 I (AW B [] :: m) w:=Sym.foldL (L:=[]) h fun _ _=>trivial
theorem fB {mf mr:List HA} (h:Sym w0 M I0 I m w) (D:Outs m mf mr):Sym w0 M I0 I (mf++mr) w:=h.perm D.perm
theorem Cod.bank0 {c:Code} (B:BoxTy α) (g:Cod P c n E (Sym w0 M I0 I (AW B [] :: m)) Q):Cod P c n E (Sym w0 M I0 I m) Q:=Cod.pre (fun _ h=>h.bank0 B) g
theorem Ops.bankO (O:Del m (AW B xs) m') (J:BK b xs=some z) (g:∀ a,B.fact I a z→Ops P ops l n E (Sym w0 M I0 I (pto b (B.obj a z) :: (B.more a z++AW B (BO b xs) :: m'))) Q):Ops P ops l n E (Sym w0 M I0 I m) Q:=
 fun c w D U=>by obtain ⟨a,G,h⟩:=((U.del O).bankAt J).boxO; exact g a G c w D h
theorem Ops.bankC {mr:List HA} (a:B.A) (z:α) (J:B.fact I a z) (G:Outs m (pto b (B.obj a z) :: (B.more a z++[AW B ys])) mr) (g:Ops P ops l n E (Sym w0 M I0 I (AW B ((b,z) :: ys) :: mr)) Q):Ops P ops l n E (Sym w0 M I0 I m) Q:=
 fun c w D h=>by
  have U:=fB h G
  have O:Sym w0 M I0 I (Fw.pto b (B.obj a z) :: (B.more a z++AW B ys :: mr)) w:=by simpa using U
  exact g c w D (O.boxC J).bankIn
theorem Ops.bankB {mr:List HA} (a:B.A) (z:α) (O:B.fact I a z) (U:BK b xs=some z) (G:Outs m (pto b (B.obj a z) :: (B.more a z++[AW B (BO b xs)])) mr) (g:Ops P ops l n E (Sym w0 M I0 I (AW B xs :: mr)) Q):Ops P ops l n E (Sym w0 M I0 I m) Q:=
 fun c w D h=>by
  have V:=fB h G
  have J:Sym w0 M I0 I (Fw.pto b (B.obj a z) :: (B.more a z++AW B (BO b xs) :: mr)) w:=by simpa using V
  exact g c w D ((J.boxC O).bankBack U)
theorem Ops.bankP {mr:List HA} (a:B.A) (z:α) (U:B.fact I a z) (O:Outs m (pto b (B.obj a z) :: (B.more a z++[AW B ys])) mr) (g:BK b ys=none→Ops P ops l n E (Sym w0 M I0 I (AW B ((b,z) :: ys) :: mr)) Q):Ops P ops l n E (Sym w0 M I0 I m) Q:=
 fun c w D h=>by
  have J:=fB h O
  have G:Sym w0 M I0 I (Fw.pto b (B.obj a z) :: (B.more a z++AW B ys :: mr)) w:=by simpa using J
  have V:Sym w0 M I0 I (Fw.pto b (B.obj a z) :: AW B ys :: (B.more a z++mr)) w:=by
   refine G.perm (List.Perm.cons _ ?_)
   exact List.perm_middle
  exact g V.fresh c w D (G.boxC U).bankIn
theorem Cod.bankO {c:Code} (O:Del m (AW B xs) m') (J:BK b xs=some z) (g:∀ a,B.fact I a z→Cod P c n E (Sym w0 M I0 I (pto b (B.obj a z) :: (B.more a z++AW B (BO b xs) :: m'))) Q):Cod P c n E (Sym w0 M I0 I m) Q:=
 fun c w D U=>by obtain ⟨a,G,h⟩:=((U.del O).bankAt J).boxO; exact g a G c w D h
theorem qU (t:Option Nat):(eJ t).isNone=t.isNone:=by cases t <;> rfl
theorem Ops.eqNilH {t:Option Nat} {U:TypeId} {u:TypeId} (h:P.underlying T=some (.pointer u)) (O:ev E x=some (.pointer (eJ t))) (D:ev E y=some (.pointer none)) (G:Nat.blt d n.sz=true) (J:fresh E d=true)
 (k:Ops P ops l n ((d,.bool t.isNone) :: E) S Q):Ops P ops (⟨some d,.binOp .eql T x y U,ty,pos,af,none⟩ :: l) n E S Q:=Ops.eqNilP h O D G J (by rw [qU]; exact k)
theorem AaJ {κ:Type} [DecidableEq κ] {ke:κ→Value} {g1 g2:κ→Int} {U W:IntKind} {G:TypeId} {D h:Field} (hk:∀ k,ke k=.agg #[.int U (g1 k),.int W (g2 k)]) (Z:P.underlying G=some (.struct #[D,h]))
  (Y:P.underlying D.type=some (.int U)) (h2:P.underlying h.type=some (.int W)) (o1:D.offset=0) (o2:h.offset=1) (a1:∀ w,(isAgg D.type).run P w=.ok false w) (a2:∀ w,(isAgg h.type).run P w=.ok false w)
  (O:∀ (k x:κ) (w:World),(Op.equal G (ke k) (ke x)).run P w=.ok (decide (k=x)) w):V3 P G ke:=by
 refine wY Z (fun k x=>by rw [hk,hk]; rfl) O (fun V k w=>?_) (fun k=>by rw [hk]; simp [Instr.sameBits])
 rw [hk]
 show (Instr.checkKey V (9998+1+1) G _).run P w=_
 unfold Instr.checkKey
 simp only [Sem.run_bind,run_underlying Z,Result.andThen_ok]
 have J:∀ {e:TypeId} {q:IntKind} (he:P.underlying e=some (.int q)) (a:Int) (w:World),(Instr.checkKey V (9998+1) e (.int q a)).run P w=.ok () w:=fun he a w=>by
  unfold Instr.checkKey
  simp only [Sem.run_bind,run_underlying he,Result.andThen_ok]
  rfl
 simp [part,a1,a2,o1,o2,J Y,J h2]
 repeat' split
 all_goals simp [part,a1,a2,o1,o2,J Y,J h2]
theorem Fun.frame {f:FuncId} {args:Array Value} {φ:IH→Value→List HA→Prop} {k r:List HA} (Z:Fun P f args I k φ):Fun P f args I (k++r) fun G v D=>∃ U,D=U++r∧φ G v U:=by
 intro w h hi W hk Y
 refine Z.use (Fun.start hi W hk Y) fun v G D w' O V J=>?_
 exact ⟨v,G,_,rfl,O,⟨D,rfl,V⟩,J⟩
theorem Fun.conseq {f:FuncId} {args:Array Value} {φ:IH→Value→List HA→Prop} {k:List HA} (Z:Fun P f args I k φ) (h:∀ D v J,I.le D→φ D v J→ψ D v J):Fun P f args I k ψ:=by
 intro w V hi W hk Y
 refine (Z w V hi W hk Y).mono fun e w'=>?_
 rintro ⟨v,D,J,he,G,U,O⟩
 exact ⟨v,D,J,he,G,h _ _ _ G U,O⟩
theorem Fun.bank {f:FuncId} {args:Array Value} {φ:B.A→IH→Value→List HA→Prop} {k:List HA} (hx:BK b xs=some z)
  (hw:∀ a,B.fact I a z→Fun P f args I (pto b (B.obj a z) :: (B.more a z++k)) (φ a))
  (h:∀ a D v U,I.le D→φ a D v U→∃ (a':B.A) (G:α) (J:List HA),U=pto b (B.obj a' G) :: (B.more a' G++J)∧B.fact D a' G∧ψ D v (AW B ((b,G) :: BO b xs) :: J)):Fun P f args I (AW B xs :: k) ψ:=by
 intro w Z hi hs hk hd
 have V:=Fun.start hi hs hk hd
 obtain ⟨a,hf,h2⟩:=(V.bankAt hx).boxO
 have h3:Sym w (fun b=>Z b≠none) I I ((Fw.pto b (B.obj a z) :: (B.more a z++k))++[AW B (BO b xs)]) w:=by
  refine h2.perm ?_
  rw [List.cons_append,List.append_assoc]
  exact List.Perm.cons _ (List.Perm.append_left _ (List.perm_append_comm (l₁:=[AW B (BO b xs)]) (l₂:=k)))
 refine (hw a hf).use h3 fun v D U w' O hφ W=>?_
 obtain ⟨a',G,J,rfl,Y,hψ⟩:=h a D v U O hφ
 refine ⟨v,D,_,rfl,O,hψ,?_⟩
 have h4:Sym w (fun b=>Z b≠none) I D (Fw.pto b (B.obj a' G) :: (B.more a' G++AW B (BO b xs) :: J)) w':=by
  refine W.perm ?_
  rw [List.cons_append,List.append_assoc]
  exact List.Perm.cons _ (List.Perm.append_left _ (List.perm_append_comm (l₁:=J) (l₂:=[AW B (BO b xs)])))
 exact (h4.boxC Y).bankIn
theorem Fun.bankR {f:FuncId} {args:Array Value} {φ:B.A→IH→Value→List HA→Prop} {k:List HA} (hx:BK b xs=some z)
  (hw:∀ a,B.fact I a z→Fun P f args I (pto b (B.obj a z) :: (B.more a z++k)) (φ a))
  (h:∀ a D v O,I.le D→B.fact I a z→φ a D v O→∃ (a':B.A) (G:List HA),O=pto b (B.obj a' z) :: (B.more a' z++G)∧B.fact D a' z∧ψ D v (AW B xs :: G)):Fun P f args I (AW B xs :: k) ψ:=by
 intro w Y hi hs hk hd
 have U:=Fun.start hi hs hk hd
 obtain ⟨a,Z,h2⟩:=(U.bankAt hx).boxO
 have h3:Sym w (fun b=>Y b≠none) I I ((Fw.pto b (B.obj a z) :: (B.more a z++k))++[AW B (BO b xs)]) w:=by
  refine h2.perm ?_
  rw [List.cons_append,List.append_assoc]
  exact List.Perm.cons _ (List.Perm.append_left _ (List.perm_append_comm (l₁:=[AW B (BO b xs)]) (l₂:=k)))
 refine (hw a Z).use h3 fun v D O w' J hφ V=>?_
 obtain ⟨a',G,rfl,W,hψ⟩:=h a D v O J Z hφ
 refine ⟨v,D,_,rfl,J,hψ,?_⟩
 have h4:Sym w (fun b=>Y b≠none) I D (Fw.pto b (B.obj a' z) :: (B.more a' z++AW B (BO b xs) :: G)) w':=by
  refine V.perm ?_
  rw [List.cons_append,List.append_assoc]
  exact List.Perm.cons _ (List.Perm.append_left _ (List.perm_append_comm (l₁:=G) (l₂:=[AW B (BO b xs)])))
 exact (h4.boxC W).bankBack hx
theorem Ops.callPc {x:Operand} {g:FuncId} {args:List Operand} {vs:List Value} {D:Array TypeId} {ψ:Value→Prop} (Y:∀ as w,(callFunc g as).run P w=.ok (.enter g as) w)
  (hx:ev E x=some (.func (.func g) #[] #[])) (Z:qE E args=some vs) (hf:BH P g vs I fun _=>ψ) (V:Nat.blt d n.sz=true) (J:fresh E d=true)
  (k:∀ v,ψ v→Ops P ops l n ((d,v) :: E) (Sym w0 M I0 I m) Q) :
  Ops P ops (⟨some d,.call ⟨.value x,args.toArray,D⟩,ty,pos,af,none⟩ :: l) n E (Sym w0 M I0 I m) Q:=by
 intro c w G U
 refine wpListIn_plain rfl fun K hK=>?_
 have he:=Enters.c (n:=n) (S:=fun _=>True) Y hx Z (some d) D ty pos af c w G trivial
 simp only [List.nil_append,List.append_nil] at he
 refine Z3 he (by simp) ?_
 simp only [Oper.uponIn]
 refine ⟨fun h=>(by cases h),bL ((hf w (fun _=>none) U.imm trivial (fun _ _ x=>nomatch x) (fun _=>.inr rfl)).mono fun e w' O=>?_)⟩
 obtain ⟨v,J',l',rfl,_,⟨_,hψ⟩,hs'⟩:=O
 exact hK _ _ (k v hψ _ _ (G.put V J v) (U.grown ⟨hs'.base.os,hs'.base.tape,hs'.base.output,hs'.base.drawn,hs'.base.size,fun b W _=>hs'.base.block b W (by simp)⟩))
end Go.Fw
