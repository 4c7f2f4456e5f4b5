/- The engine. -/
import Derived.Test.YtbohadngdkjljaaGreatFwW
import Derived.Sort.LoopGhostIn
namespace Go.Fw
open Go Go.RowKit
variable {w0 w:World} {M:Nat→Prop} {I0 I:IH} {m m':List HA}
variable {P:Program} {n:FrK} {E:DA} {S:World→Prop} {Q:Exit→Act→World→Prop} {ops:Array Oper} {l:List Oper}
variable {d ty:Nat} {pos:String} {af:Array Edge} {T e:TypeId} {x y:Operand} {α:Type}
variable {ψ:IH→Value→List HA→Prop}
structure BoxTy (α:Type) where
 A:Type
 fact:IH→A→α→Prop
 mono:∀ {I J:IH} {a:A} {x:α},I.le J→fact I a x→fact J a x
 obj:A→α→Obj
 more:A→α→List HA
def BoxTy.at (B:BoxTy α) (b:Nat) (x:α):HA where
 holds I h:=∃ a,B.fact I a x∧OU (pto b (B.obj a x) :: B.more a x) I h
 mono:=fun hI hh ⟨a,h1,h2⟩=>⟨a,B.mono hI h1,PL hI hh h2⟩
def AV (B:BoxTy α) (xs:List (Nat×α)):HA where
 holds I h:=OU (xs.map fun p=>B.at p.1 p.2) I h
 mono:=fun hI hh h=>PL (l:=xs.map fun p=>B.at p.1 p.2) hI hh h
abbrev dT (o:Option Nat):Option Addr:=o.map fun b=>⟨b,0,none⟩
abbrev CU:F0 (Option Nat):=IR 1 (fun o=>[.pointer (dT o)]) (fun _=>⟨rfl,rfl⟩)
def CE (xs:List (Nat×α)) (t:Option Nat) (K:Nat→α→Prop):Prop:=∃ b x,t=some b∧BK b xs=some x∧K b x
def AaO (xs:List (Nat×α)) (K:Nat→Prop):Prop:=∀ b,BK b xs=none→K b
def Z7 (xs:List (Nat×α)) (b:Nat) (K:α→Prop):Prop:=∃ x,BK b xs=some x∧K x
def Y1 (t:Option Nat) (A:Prop) (B:Nat→Prop):Prop:=(t=none→A)∧∀ b,t=some b→B b
variable {B:BoxTy α} {xs ys:List (Nat×α)} {b:Nat} {z:α}
theorem Y2:∀ {xs:List (Nat×α)},BK b xs=some z→∃ G D,xs=G++(b,z) :: D∧BM b xs=G++D
 | p :: r,h=>by
  unfold BK at h
  unfold BM
  split at h
  · rename_i e
    subst e
    cases h
    rw [if_pos rfl]
    exact ⟨[],r,rfl,rfl⟩
  · rename_i e
    rw [if_neg e]
    obtain ⟨G,D,O,J⟩:=Y2 h
    exact ⟨p :: G,D,by rw [O]; rfl,by rw [J]; rfl⟩
theorem WE {α:Type} {A:α}:∀ {D h:List HA} {A:HA},Del (D++A :: h) A (D++h)
 | [],_,_=>.z
 | _ :: _,_,_=>.s (WE (α:=α) (A:=A))
theorem Sym.bankAt (h:Sym w0 M I0 I (AV B xs :: m) w) (J:BK b xs=some z):Sym w0 M I0 I (B.at b z :: AV B (BM b xs) :: m) w:=by
 obtain ⟨l1,l2,U,G⟩:=Y2 J
 refine h.unfoldL fun k hk=>⟨_,hk,fun O=>?_⟩
 have D:Del ((xs.map fun p=>B.at p.1 p.2)++m) (B.at b z) (((BM b xs).map fun p=>B.at p.1 p.2)++m):=by
  rw [G,U,List.map_append,List.map_cons,List.map_append,List.append_assoc,List.append_assoc]
  exact WE (α:=Nat) (A:=0)
 exact (O.del D).foldL2 fun k hk=>hk
theorem Sym.bankIn (h:Sym w0 M I0 I (B.at b z :: AV B ys :: m) w):Sym w0 M I0 I (AV B ((b,z) :: ys) :: m) w:=by
 have J:Sym w0 M I0 I (AV B ys :: B.at b z :: m) w:=h.del (.s .z)
 refine J.unfoldL fun k hk=>⟨_,hk,fun O=>?_⟩
 have G:Del ((ys.map fun p=>B.at p.1 p.2)++B.at b z :: m) (B.at b z) ((ys.map fun p=>B.at p.1 p.2)++m):=WE (α:=Nat) (A:=0)
 have D:Sym w0 M I0 I ((((b,z) :: ys).map fun p=>B.at p.1 p.2)++m) w:=O.del G
 exact D.foldL fun k hk=>hk
theorem Sym.bankBack (h:Sym w0 M I0 I (B.at b z :: AV B (BM b xs) :: m) w) (U:BK b xs=some z):Sym w0 M I0 I (AV B xs :: m) w:=by
 obtain ⟨l1,l2,W,O⟩:=Y2 U
 have V:Sym w0 M I0 I (AV B (BM b xs) :: B.at b z :: m) w:=h.del (.s .z)
 refine V.unfoldL fun k hk=>⟨_,hk,fun D=>?_⟩
 have J:Del (((BM b xs).map fun p=>B.at p.1 p.2)++B.at b z :: m) (B.at b z) (((BM b xs).map fun p=>B.at p.1 p.2)++m):=WE (α:=Nat) (A:=0)
 have G:=D.del J
 have Y:Del ((xs.map fun p=>B.at p.1 p.2)++m) (B.at b z) (((BM b xs).map fun p=>B.at p.1 p.2)++m):=by
  rw [O,W,List.map_append,List.map_cons,List.map_append,List.append_assoc,List.append_assoc]
  exact WE (α:=Nat) (A:=0)
 exact (G.undel Y).foldL fun k hk=>hk
theorem Sym.boxO (h:Sym w0 M I0 I (B.at b z :: m) w):∃ a,B.fact I a z∧Sym w0 M I0 I (Fw.pto b (B.obj a z) :: (B.more a z++m)) w:=by
 refine h.unfoldL fun k ⟨a,D,hk⟩=>⟨_,hk,fun G=>⟨a,D,G⟩⟩
theorem Sym.boxC {a:B.A} (D:B.fact I a z) (h:Sym w0 M I0 I (Fw.pto b (B.obj a z) :: (B.more a z++m)) w):Sym w0 M I0 I (B.at b z :: m) w:=
 Sym.foldL (L:=Fw.pto b (B.obj a z) :: B.more a z) h fun _ hk=>⟨a,D,hk⟩
theorem Sym.fresh {o:Obj} (h:Sym w0 M I0 I (Fw.pto b o :: AV B ys :: m) w):BK b ys=none:=by
 cases hg:BK b ys with
 | none=>rfl
 | some z=>
  exfalso
  have h1:=(h.del (.s .z)).bankAt hg
  obtain ⟨a,_,Y⟩:=h1.boxO
  have Z:Del (Fw.pto b (B.obj a z) :: (B.more a z++AV B (BM b ys) :: Fw.pto b o :: m)) (Fw.pto b o) (Fw.pto b (B.obj a z) :: (B.more a z++AV B (BM b ys) :: m)):=by
    refine .s ?_
    have:=@WE Nat 0 (B.more a z++[AV B (BM b ys)]) m (Fw.pto b o)
    simpa using this
  have h3:=Y.del Z
  obtain ⟨k,hk,_⟩:=h3.own
  obtain ⟨U,V,J,_,_,W,k3,k4,_,G,_,O,_⟩:=hk
  have e1:U b=some o:=W
  have e2:V b=some (B.obj a z):=G _ _ O
  rcases J b with D | D
  · rw [e1] at D; cases D
  · rw [e2] at D; cases D
theorem Sym.bank0 (B:BoxTy α) (h:Sym w0 M I0 I m w):Sym w0 M I0 I (AV B [] :: m) w:=Sym.foldL (L:=[]) h fun _ _=>trivial
theorem eQ {mf mr:List HA} (h:Sym w0 M I0 I m w) (D:Outs m mf mr):Sym w0 M I0 I (mf++mr) w:=h.perm D.perm
theorem Cod.bank0 {c:Code} (B:BoxTy α) (g:Cod P c n E (Sym w0 M I0 I (AV B [] :: m)) Q):Cod P c n E (Sym w0 M I0 I m) Q:=Cod.pre (fun _ h=>h.bank0 B) g
theorem Ops.bankO (D:Del m (AV B xs) m') (J:BK b xs=some z) (g:∀ a,B.fact I a z→Ops P ops l n E (Sym w0 M I0 I (pto b (B.obj a z) :: (B.more a z++AV B (BM b xs) :: m'))) Q):Ops P ops l n E (Sym w0 M I0 I m) Q:=
 fun c w U O=>by obtain ⟨a,G,h⟩:=((O.del D).bankAt J).boxO; exact g a G c w U h
theorem Ops.bankC {mr:List HA} (a:B.A) (z:α) (J:B.fact I a z) (U:Outs m (pto b (B.obj a z) :: (B.more a z++[AV B ys])) mr) (g:Ops P ops l n E (Sym w0 M I0 I (AV B ((b,z) :: ys) :: mr)) Q):Ops P ops l n E (Sym w0 M I0 I m) Q:=
 fun c w D h=>by
  have O:=eQ h U
  have G:Sym w0 M I0 I (Fw.pto b (B.obj a z) :: (B.more a z++AV B ys :: mr)) w:=by simpa using O
  exact g c w D (G.boxC J).bankIn
theorem Ops.bankB {mr:List HA} (a:B.A) (z:α) (J:B.fact I a z) (O:BK b xs=some z) (V:Outs m (pto b (B.obj a z) :: (B.more a z++[AV B (BM b xs)])) mr) (g:Ops P ops l n E (Sym w0 M I0 I (AV B xs :: mr)) Q):Ops P ops l n E (Sym w0 M I0 I m) Q:=
 fun c w D h=>by
  have U:=eQ h V
  have G:Sym w0 M I0 I (Fw.pto b (B.obj a z) :: (B.more a z++AV B (BM b xs) :: mr)) w:=by simpa using U
  exact g c w D ((G.boxC J).bankBack O)
theorem Ops.bankP {mr:List HA} (a:B.A) (z:α) (O:B.fact I a z) (J:Outs m (pto b (B.obj a z) :: (B.more a z++[AV B ys])) mr) (g:BK b ys=none→Ops P ops l n E (Sym w0 M I0 I (AV B ((b,z) :: ys) :: mr)) Q):Ops P ops l n E (Sym w0 M I0 I m) Q:=
 fun c w D h=>by
  have U:=eQ h J
  have G:Sym w0 M I0 I (Fw.pto b (B.obj a z) :: (B.more a z++AV B ys :: mr)) w:=by simpa using U
  have V:Sym w0 M I0 I (Fw.pto b (B.obj a z) :: AV B ys :: (B.more a z++mr)) w:=by
   refine G.perm (List.Perm.cons _ ?_)
   exact List.perm_middle
  exact g V.fresh c w D (G.boxC O).bankIn
theorem Cod.bankO {c:Code} (D:Del m (AV B xs) m') (J:BK b xs=some z) (g:∀ a,B.fact I a z→Cod P c n E (Sym w0 M I0 I (pto b (B.obj a z) :: (B.more a z++AV B (BM b xs) :: m'))) Q):Cod P c n E (Sym w0 M I0 I m) Q:=
 fun c w U O=>by obtain ⟨a,G,h⟩:=((O.del D).bankAt J).boxO; exact g a G c w U h
theorem qU (t:Option Nat):(dT t).isNone=t.isNone:=by cases t <;> rfl
theorem Ops.eqNilH {t:Option Nat} {D:TypeId} {u:TypeId} (J:P.underlying T=some (.pointer u)) (O:ev E x=some (.pointer (dT t))) (U:ev E y=some (.pointer none)) (h:Nat.blt d n.sz=true) (G:fresh E d=true)
 (k:Ops P ops l n ((d,.bool t.isNone) :: E) S Q):Ops P ops (⟨some d,.binOp .eql T x y D,ty,pos,af,none⟩ :: l) n E S Q:=Ops.eqNilP J O U h G (by rw [qU]; exact k)
theorem AaP {κ:Type} [DecidableEq κ] {ke:κ→Value} {g1 g2:κ→Int} {Z Y:IntKind} {G:TypeId} {J D:Field} (hk:∀ k,ke k=.agg #[.int Z (g1 k),.int Y (g2 k)]) (U:P.underlying G=some (.struct #[J,D]))
  (h1:P.underlying J.type=some (.int Z)) (W:P.underlying D.type=some (.int Y)) (o1:J.offset=0) (o2:D.offset=1) (a1:∀ w,(isAgg J.type).run P w=.ok false w) (a2:∀ w,(isAgg D.type).run P w=.ok false w)
  (O:∀ (k x:κ) (w:World),(Op.equal G (ke k) (ke x)).run P w=.ok (decide (k=x)) w):UQ P G ke:=by
 refine xB U (fun k x=>by rw [hk,hk]; rfl) O (fun V k w=>?_) (fun k=>by rw [hk]; simp [Instr.sameBits])
 rw [hk]
 show (Instr.checkKey V (9998+1+1) G _).run P w=_
 unfold Instr.checkKey
 simp only [Sem.run_bind,run_underlying U,Result.andThen_ok]
 have h:∀ {e:TypeId} {q:IntKind} (he:P.underlying e=some (.int q)) (a:Int) (w:World),(Instr.checkKey V (9998+1) e (.int q a)).run P w=.ok () w:=fun he a w=>by
  unfold Instr.checkKey
  simp only [Sem.run_bind,run_underlying he,Result.andThen_ok]
  rfl
 simp [part,a1,a2,o1,o2,h h1,h W]
 repeat' split
 all_goals simp [part,a1,a2,o1,o2,h h1,h W]
theorem Fun.frame {f:FuncId} {args:Array Value} {φ:IH→Value→List HA→Prop} {k r:List HA} (Y:Fun P f args I k φ):Fun P f args I (k++r) fun D v J=>∃ U,J=U++r∧φ D v U:=by
 intro w h hi V hk W
 refine Y.use (Fun.start hi V hk W) fun v D J w' O Z G=>?_
 exact ⟨v,D,_,rfl,O,⟨J,rfl,Z⟩,G⟩
theorem Fun.conseq {f:FuncId} {args:Array Value} {φ:IH→Value→List HA→Prop} {k:List HA} (W:Fun P f args I k φ) (h:∀ D v J,I.le D→φ D v J→ψ D v J):Fun P f args I k ψ:=by
 intro w Y hi U hk V
 refine (W w Y hi U hk V).mono fun e w'=>?_
 rintro ⟨v,D,J,he,G,Z,O⟩
 exact ⟨v,D,J,he,G,h _ _ _ G Z,O⟩
theorem Fun.bank {f:FuncId} {args:Array Value} {φ:B.A→IH→Value→List HA→Prop} {k:List HA} (hx:BK b xs=some z)
  (hw:∀ a,B.fact I a z→Fun P f args I (pto b (B.obj a z) :: (B.more a z++k)) (φ a))
  (h:∀ a D v U,I.le D→φ a D v U→∃ (a':B.A) (G:α) (O:List HA),U=pto b (B.obj a' G) :: (B.more a' G++O)∧B.fact D a' G∧ψ D v (AV B ((b,G) :: BM b xs) :: O)):Fun P f args I (AV B xs :: k) ψ:=by
 intro w Z hi hs hk hd
 have V:=Fun.start hi hs hk hd
 obtain ⟨a,hf,h2⟩:=(V.bankAt hx).boxO
 have h3:Sym w (fun b=>Z b≠none) I I ((Fw.pto b (B.obj a z) :: (B.more a z++k))++[AV B (BM b xs)]) w:=by
  refine h2.perm ?_
  rw [List.cons_append,List.append_assoc]
  exact List.Perm.cons _ (List.Perm.append_left _ (List.perm_append_comm (l₁:=[AV B (BM b xs)]) (l₂:=k)))
 refine (hw a hf).use h3 fun v D U w' J hφ Y=>?_
 obtain ⟨a',G,O,rfl,W,hψ⟩:=h a D v U J hφ
 refine ⟨v,D,_,rfl,J,hψ,?_⟩
 have h4:Sym w (fun b=>Z b≠none) I D (Fw.pto b (B.obj a' G) :: (B.more a' G++AV B (BM b xs) :: O)) w':=by
  refine Y.perm ?_
  rw [List.cons_append,List.append_assoc]
  exact List.Perm.cons _ (List.Perm.append_left _ (List.perm_append_comm (l₁:=O) (l₂:=[AV B (BM b xs)])))
 exact (h4.boxC W).bankIn
theorem Fun.bankR {f:FuncId} {args:Array Value} {φ:B.A→IH→Value→List HA→Prop} {k:List HA} (Z:BK b xs=some z)
  (hw:∀ a,B.fact I a z→Fun P f args I (pto b (B.obj a z) :: (B.more a z++k)) (φ a))
  (h:∀ a D v O,I.le D→B.fact I a z→φ a D v O→∃ (a':B.A) (J:List HA),O=pto b (B.obj a' z) :: (B.more a' z++J)∧B.fact D a' z∧ψ D v (AV B xs :: J)):Fun P f args I (AV B xs :: k) ψ:=by
 intro w h1 hi hs hk hd
 have U:=Fun.start hi hs hk hd
 obtain ⟨a,Y,h2⟩:=(U.bankAt Z).boxO
 have h3:Sym w (fun b=>h1 b≠none) I I ((Fw.pto b (B.obj a z) :: (B.more a z++k))++[AV B (BM b xs)]) w:=by
  refine h2.perm ?_
  rw [List.cons_append,List.append_assoc]
  exact List.Perm.cons _ (List.Perm.append_left _ (List.perm_append_comm (l₁:=[AV B (BM b xs)]) (l₂:=k)))
 refine (hw a Y).use h3 fun v D O w' G hφ W=>?_
 obtain ⟨a',J,rfl,V,hψ⟩:=h a D v O G Y hφ
 refine ⟨v,D,_,rfl,G,hψ,?_⟩
 have h4:Sym w (fun b=>h1 b≠none) I D (Fw.pto b (B.obj a' z) :: (B.more a' z++AV B (BM b xs) :: J)) w':=by
  refine W.perm ?_
  rw [List.cons_append,List.append_assoc]
  exact List.Perm.cons _ (List.Perm.append_left _ (List.perm_append_comm (l₁:=J) (l₂:=[AV B (BM b xs)])))
 exact (h4.boxC V).bankBack Z
theorem Ops.callPc {x:Operand} {g:FuncId} {args:List Operand} {vs:List Value} {G:Array TypeId} {ψ:Value→Prop} (W:∀ as w,(callFunc g as).run P w=.ok (.enter g as) w)
  (hx:ev E x=some (.func (.func g) #[] #[])) (Y:qC E args=some vs) (hf:BH P g vs I fun _=>ψ) (V:Nat.blt d n.sz=true) (O:fresh E d=true)
  (k:∀ v,ψ v→Ops P ops l n ((d,v) :: E) (Sym w0 M I0 I m) Q) :
  Ops P ops (⟨some d,.call ⟨.value x,args.toArray,G⟩,ty,pos,af,none⟩ :: l) n E (Sym w0 M I0 I m) Q:=by
 intro c w D U
 refine wpListIn_plain rfl fun K Z=>?_
 have he:=Enters.c (n:=n) (S:=fun _=>True) W hx Y (some d) G ty pos af c w D trivial
 simp only [List.nil_append,List.append_nil] at he
 refine YT he (by simp) ?_
 simp only [Oper.uponIn]
 refine ⟨fun h=>(by cases h),bB ((hf w (fun _=>none) U.imm trivial (fun _ _ x=>nomatch x) (fun _=>.inr rfl)).mono fun e w' J=>?_)⟩
 obtain ⟨v,J',l',rfl,_,⟨_,hψ⟩,hs'⟩:=J
 exact Z _ _ (k v hψ _ _ (D.put V O v) (U.grown ⟨hs'.base.os,hs'.base.tape,hs'.base.output,hs'.base.drawn,hs'.base.size,fun b h1 _=>hs'.base.block b h1 (by simp)⟩))
end Go.Fw
