/- The engine, part K: boxes by their addresses. -/
import Derived.Test.YtbohadngdkjljaaGreatFwW
import Derived.Sort.LoopGhostIn
namespace Go.Fw
open Go Go.RowKit
variable {w0 w:World} {M:Nat→Prop} {I0 I:IH} {m m':List HA}
variable {P:Program} {n:FrK} {E:DY} {S:World→Prop} {Q:Exit→Act→World→Prop} {ops:Array Oper} {l:List Oper}
variable {d ty:Nat} {pos:String} {af:Array Edge} {T e:TypeId} {x y:Operand} {α:Type}
structure BoxTy (α:Type) where
  A:Type
  fact:IH→A→α→Prop
  mono:∀ {I J:IH} {a:A} {x:α},I.le J→fact I a x→fact J a x
  obj:A→α→Obj
  more:A→α→List HA
def BoxTy.at (B:BoxTy α) (b:Nat) (x:α):HA where
  holds I h:=∃ a,B.fact I a x∧NF (pto b (B.obj a x) :: B.more a x) I h
  mono:=fun hI hh ⟨a,h1,h2⟩=>⟨a,B.mono hI h1,KT hI hh h2⟩
def BQ (B:BoxTy α) (xs:List (Nat×α)):HA where
  holds I h:=NF (xs.map fun p=>B.at p.1 p.2) I h
  mono:=fun hI hh h=>KT (l:=xs.map fun p=>B.at p.1 p.2) hI hh h
abbrev mkA (o:Option Nat):Option Addr:=o.map fun b=>⟨b,0,none⟩
abbrev OV:FH (Int×Int×Int):=KI 3 (fun x=>[.int .i64 x.1,.int .i64 x.2.1,.int .i64 x.2.2]) (fun _=>⟨rfl,rfl⟩)
abbrev CV:FH (Option Nat):=KI 1 (fun o=>[.pointer (mkA o)]) (fun _=>⟨rfl,rfl⟩)
def GL (xs:List (Nat×α)) (t:Option Nat) (K:Nat→α→Prop):Prop:=∃ b x,t=some b∧BN b xs=some x∧K b x
def Aj4 (xs:List (Nat×α)) (K:Nat→Prop):Prop:=∀ b,BN b xs=none→K b
def yF (xs:List (Nat×α)) (b:Nat) (K:α→Prop):Prop:=∃ x,BN b xs=some x∧K x
def uA (t:Option Nat) (A:Prop) (B:Nat→Prop):Prop:=(t=none→A)∧∀ b,t=some b→B b
variable {B:BoxTy α} {xs ys:List (Nat×α)} {b:Nat} {z:α}
theorem bJ:∀ {xs:List (Nat×α)},BN b xs=some z→∃ G D,xs=G++(b,z) :: D∧CM b xs=G++D
  | p :: r,h=>by
    unfold BN at h
    unfold CM
    split at h
    · rename_i e
      subst e
      cases h
      rw [if_pos rfl]
      exact ⟨[],r,rfl,rfl⟩
    · rename_i e
      rw [if_neg e]
      obtain ⟨G,D,J,O⟩:=bJ h
      exact ⟨p :: G,D,by rw [J]; rfl,by rw [O]; rfl⟩
theorem ZB {α:Type} {A:α}:∀ {D h:List HA} {A:HA},Del (D++A :: h) A (D++h)
  | [],_,_=>.z
  | _ :: _,_,_=>.s (ZB (α:=α) (A:=A))
theorem Sym.bankAt (h:Sym w0 M I0 I (BQ B xs :: m) w) (J:BN b xs=some z):Sym w0 M I0 I (B.at b z :: BQ B (CM b xs) :: m) w:=by
  obtain ⟨l1,l2,U,O⟩:=bJ J
  refine h.unfoldL fun k hk=>⟨_,hk,fun D=>?_⟩
  have G:Del ((xs.map fun p=>B.at p.1 p.2)++m) (B.at b z) (((CM b xs).map fun p=>B.at p.1 p.2)++m):=by
    rw [O,U,List.map_append,List.map_cons,List.map_append,List.append_assoc,List.append_assoc]
    exact ZB (α:=Nat) (A:=0)
  exact (D.del G).foldL2 fun k hk=>hk
theorem Sym.bankIn (h:Sym w0 M I0 I (B.at b z :: BQ B ys :: m) w):Sym w0 M I0 I (BQ B ((b,z) :: ys) :: m) w:=by
  have D:Sym w0 M I0 I (BQ B ys :: B.at b z :: m) w:=h.del (.s .z)
  refine D.unfoldL fun k hk=>⟨_,hk,fun G=>?_⟩
  have J:Del ((ys.map fun p=>B.at p.1 p.2)++B.at b z :: m) (B.at b z) ((ys.map fun p=>B.at p.1 p.2)++m):=ZB (α:=Nat) (A:=0)
  have O:Sym w0 M I0 I ((((b,z) :: ys).map fun p=>B.at p.1 p.2)++m) w:=G.del J
  exact O.foldL fun k hk=>hk
theorem Sym.bankBack (h:Sym w0 M I0 I (B.at b z :: BQ B (CM b xs) :: m) w) (V:BN b xs=some z):Sym w0 M I0 I (BQ B xs :: m) w:=by
  obtain ⟨l1,l2,Y,O⟩:=bJ V
  have U:Sym w0 M I0 I (BQ B (CM b xs) :: B.at b z :: m) w:=h.del (.s .z)
  refine U.unfoldL fun k hk=>⟨_,hk,fun D=>?_⟩
  have J:Del (((CM b xs).map fun p=>B.at p.1 p.2)++B.at b z :: m) (B.at b z) (((CM b xs).map fun p=>B.at p.1 p.2)++m):=ZB (α:=Nat) (A:=0)
  have W:=D.del J
  have G:Del ((xs.map fun p=>B.at p.1 p.2)++m) (B.at b z) (((CM b xs).map fun p=>B.at p.1 p.2)++m):=by
    rw [O,Y,List.map_append,List.map_cons,List.map_append,List.append_assoc,List.append_assoc]
    exact ZB (α:=Nat) (A:=0)
  exact (W.undel G).foldL fun k hk=>hk
theorem Sym.boxO (h:Sym w0 M I0 I (B.at b z :: m) w):∃ a,B.fact I a z∧Sym w0 M I0 I (Fw.pto b (B.obj a z) :: (B.more a z++m)) w:=by
  refine h.unfoldL fun k ⟨a,G,hk⟩=>⟨_,hk,fun D=>⟨a,G,D⟩⟩
theorem Sym.boxC {a:B.A} (D:B.fact I a z) (h:Sym w0 M I0 I (Fw.pto b (B.obj a z) :: (B.more a z++m)) w):Sym w0 M I0 I (B.at b z :: m) w:=
  Sym.foldL (L:=Fw.pto b (B.obj a z) :: B.more a z) h fun _ hk=>⟨a,D,hk⟩
theorem Sym.fresh {o:Obj} (h:Sym w0 M I0 I (Fw.pto b o :: BQ B ys :: m) w):BN b ys=none:=by
  cases hg:BN b ys with
  | none=>rfl
  | some z=>
    exfalso
    have Z:=(h.del (.s .z)).bankAt hg
    obtain ⟨a,_,h2⟩:=Z.boxO
    have O:Del (Fw.pto b (B.obj a z) :: (B.more a z++BQ B (CM b ys) :: Fw.pto b o :: m)) (Fw.pto b o) (Fw.pto b (B.obj a z) :: (B.more a z++BQ B (CM b ys) :: m)):=by
      refine .s ?_
      have:=@ZB Nat 0 (B.more a z++[BQ B (CM b ys)]) m (Fw.pto b o)
      simpa using this
    have Y:=h2.del O
    obtain ⟨k,hk,_⟩:=Y.own
    obtain ⟨k1,U,G,_,_,ha,k3,k4,_,J,_,V,_⟩:=hk
    have e1:k1 b=some o:=ha
    have W:U b=some (B.obj a z):=J _ _ V
    rcases G b with D | D
    · rw [e1] at D; cases D
    · rw [W] at D; cases D
theorem Sym.bank0 (B:BoxTy α) (h:Sym w0 M I0 I m w):Sym w0 M I0 I (BQ B [] :: m) w:=Sym.foldL (L:=[]) h fun _ _=>trivial
theorem kH {mf mr:List HA} (h:Sym w0 M I0 I m w) (D:Outs m mf mr):Sym w0 M I0 I (mf++mr) w:=h.perm D.perm
theorem Cod.bank0 {c:Code} (B:BoxTy α) (g:Cod P c n E (Sym w0 M I0 I (BQ B [] :: m)) Q):Cod P c n E (Sym w0 M I0 I m) Q:=Cod.pre (fun _ h=>h.bank0 B) g
theorem Ops.bankO (D:Del m (BQ B xs) m') (J:BN b xs=some z) (g:∀ a,B.fact I a z→Ops P ops l n E (Sym w0 M I0 I (pto b (B.obj a z) :: (B.more a z++BQ B (CM b xs) :: m'))) Q):Ops P ops l n E (Sym w0 M I0 I m) Q:=
  fun c w G O=>by obtain ⟨a,U,h⟩:=((O.del D).bankAt J).boxO; exact g a U c w G h
theorem Ops.bankC {mr:List HA} (a:B.A) (z:α) (U:B.fact I a z) (J:Outs m (pto b (B.obj a z) :: (B.more a z++[BQ B ys])) mr) (g:Ops P ops l n E (Sym w0 M I0 I (BQ B ((b,z) :: ys) :: mr)) Q):Ops P ops l n E (Sym w0 M I0 I m) Q:=
  fun c w D h=>by
    have G:=kH h J
    have O:Sym w0 M I0 I (Fw.pto b (B.obj a z) :: (B.more a z++BQ B ys :: mr)) w:=by simpa using G
    exact g c w D (O.boxC U).bankIn
theorem Ops.bankB {mr:List HA} (a:B.A) (z:α) (V:B.fact I a z) (O:BN b xs=some z) (J:Outs m (pto b (B.obj a z) :: (B.more a z++[BQ B (CM b xs)])) mr) (g:Ops P ops l n E (Sym w0 M I0 I (BQ B xs :: mr)) Q):Ops P ops l n E (Sym w0 M I0 I m) Q:=
  fun c w D h=>by
    have G:=kH h J
    have U:Sym w0 M I0 I (Fw.pto b (B.obj a z) :: (B.more a z++BQ B (CM b xs) :: mr)) w:=by simpa using G
    exact g c w D ((U.boxC V).bankBack O)
theorem Ops.bankP {mr:List HA} (a:B.A) (z:α) (V:B.fact I a z) (J:Outs m (pto b (B.obj a z) :: (B.more a z++[BQ B ys])) mr) (g:BN b ys=none→Ops P ops l n E (Sym w0 M I0 I (BQ B ((b,z) :: ys) :: mr)) Q):Ops P ops l n E (Sym w0 M I0 I m) Q:=
  fun c w D h=>by
    have U:=kH h J
    have G:Sym w0 M I0 I (Fw.pto b (B.obj a z) :: (B.more a z++BQ B ys :: mr)) w:=by simpa using U
    have O:Sym w0 M I0 I (Fw.pto b (B.obj a z) :: BQ B ys :: (B.more a z++mr)) w:=by
      refine G.perm (List.Perm.cons _ ?_)
      exact List.perm_middle
    exact g O.fresh c w D (G.boxC V).bankIn
theorem Cod.bankO {c:Code} (D:Del m (BQ B xs) m') (J:BN b xs=some z) (g:∀ a,B.fact I a z→Cod P c n E (Sym w0 M I0 I (pto b (B.obj a z) :: (B.more a z++BQ B (CM b xs) :: m'))) Q):Cod P c n E (Sym w0 M I0 I m) Q:=
  fun c w G O=>by obtain ⟨a,U,h⟩:=((O.del D).bankAt J).boxO; exact g a U c w G h
theorem yG (t:Option Nat):(mkA t).isNone=t.isNone:=by cases t <;> rfl
theorem Ops.eqNilH {t:Option Nat} {U:TypeId} {u:TypeId} (O:P.underlying T=some (.pointer u)) (G:ev E x=some (.pointer (mkA t))) (h:ev E y=some (.pointer none)) (D:Nat.blt d n.sz=true) (J:fresh E d=true)
    (k:Ops P ops l n ((d,.bool t.isNone) :: E) S Q):Ops P ops (⟨some d,.binOp .eql T x y U,ty,pos,af,none⟩ :: l) n E S Q:=Ops.eqNilP O G h D J (by rw [yG]; exact k)
theorem AfU {κ:Type} [DecidableEq κ] {ke:κ→Value} {g1 g2:κ→Int} {V q2:IntKind} {G:TypeId} {J D:Field} (hk:∀ k,ke k=.agg #[.int V (g1 k),.int q2 (g2 k)]) (W:P.underlying G=some (.struct #[J,D]))
    (Y:P.underlying J.type=some (.int V)) (Z:P.underlying D.type=some (.int q2)) (o1:J.offset=0) (o2:D.offset=1) (a1:∀ w,(isAgg J.type).run P w=.ok false w) (a2:∀ w,(isAgg D.type).run P w=.ok false w)
    (O:∀ (k x:κ) (w:World),(Op.equal G (ke k) (ke x)).run P w=.ok (decide (k=x)) w):Y0 P G ke:=by
  refine Ad9 W (fun k x=>by rw [hk,hk]; rfl) O (fun U k w=>?_) (fun k=>by rw [hk]; simp [Instr.sameBits])
  rw [hk]
  show (Instr.checkKey U (9998+1+1) G _).run P w=_
  unfold Instr.checkKey
  simp only [Sem.run_bind,run_underlying W,Result.andThen_ok]
  have h:∀ {e:TypeId} {q:IntKind} (he:P.underlying e=some (.int q)) (a:Int) (w:World),(Instr.checkKey U (9998+1) e (.int q a)).run P w=.ok () w:=fun he a w=>by
    unfold Instr.checkKey
    simp only [Sem.run_bind,run_underlying he,Result.andThen_ok]
    rfl
  simp [part,a1,a2,o1,o2,h Y,h Z]
  repeat' split
  all_goals simp [part,a1,a2,o1,o2,h Y,h Z]
theorem AfV (d:Nat) {t e:TypeId} {i:TypeInfo} (U:P.underlying t=some (.array 3 e)) (hi:P.info? e=some i) (he:P.underlying e=some (.int .i64)) (Y:P.cellsOf e=1) (h:∀ w,(isAgg e).run P w=.ok false w) (k x:Int×Int×Int) (w:World) :
    (Op.equalIn (d+2) t (.agg #[.int .i64 k.1,.int .i64 k.2.1,.int .i64 k.2.2]) (.agg #[.int .i64 x.1,.int .i64 x.2.1,.int .i64 x.2.2])).run P w=.ok (k==x) w:=by
  obtain ⟨V,G,Z⟩:=k
  obtain ⟨J,W,O⟩:=x
  rw [run_equalIn_array w (d+1) _ _ U hi]
  have D:=fun a b=>run_equalIn_int (P:=P) w d e .i64 .i64 a b he
  simp only [Y,show List.range 3=[0,1,2] from rfl,Op.eqItems,Sem.run_bind,part,h,Result.andThen_ok]
  simp [D]
  by_cases e1:V=J
  · by_cases e2:G=W
    · by_cases e3:Z=O <;> simp [e1,e2,e3,h,D]
    · simp [e1,e2,h,D]
  · simp [e1]
def Unr (P:Program) (c:Code) (n:FrK) (Q:Exit→Act→World→Prop):Nat→Act→World→Prop
  | 0=>fun _ _=>False
  | k+1=>fun a w=>c.wpIn (UY n) 0 P (Exit.then (Unr P c n Q k) Q) a w
theorem Unr.mk {c:Code} {k:Nat} {a:Act} {w:World} (h:c.wpIn (UY n) 0 P (Exit.then (Unr P c n Q k) Q) a w):Unr P c n Q (k+1) a w:=h
theorem Cod.unroll {c:Code} (k:Nat) (h:Cod P c n E S (Exit.then (Unr P c n Q k) Q)):Cod P (.loop c) n E S Q:=by
  intro a w G J
  refine wpIn_loop_ghost (Unr P c n Q) (k+1) (h a w G J) fun m a w D=>?_
  cases m with
  | zero=>exact D.elim
  | succ m=>
    refine Code.wpIn_mono (fun e a' w' q=>?_) D
    cases e <;> try exact q
    exact ⟨m,by omega,q⟩
theorem Fun.frame {f:FuncId} {args:Array Value} {φ:IH→Value→List HA→Prop} {k r:List HA} (Z:Fun P f args I k φ):Fun P f args I (k++r) fun J v D=>∃ U,D=U++r∧φ J v U:=by
  intro w h hi Y hk V
  refine Z.use (Fun.start hi Y hk V) fun v J D w' O W G=>?_
  exact ⟨v,J,_,rfl,O,⟨D,rfl,W⟩,G⟩
theorem Fun.conseq {f:FuncId} {args:Array Value} {φ ψ:IH→Value→List HA→Prop} {k:List HA} (Z:Fun P f args I k φ) (h:∀ D v J,I.le D→φ D v J→ψ D v J):Fun P f args I k ψ:=by
  intro w W hi Y hk U
  refine (Z w W hi Y hk U).mono fun e w'=>?_
  rintro ⟨v,D,J,he,G,V,O⟩
  exact ⟨v,D,J,he,G,h _ _ _ G V,O⟩
theorem Fun.bank {f:FuncId} {args:Array Value} {ψ:IH→Value→List HA→Prop} {φ:B.A→IH→Value→List HA→Prop} {k:List HA} (hx:BN b xs=some z)
    (hw:∀ a,B.fact I a z→Fun P f args I (pto b (B.obj a z) :: (B.more a z++k)) (φ a))
    (h:∀ a D v U,I.le D→φ a D v U→∃ (a':B.A) (G:α) (J:List HA),U=pto b (B.obj a' G) :: (B.more a' G++J)∧B.fact D a' G∧ψ D v (BQ B ((b,G) :: CM b xs) :: J)):Fun P f args I (BQ B xs :: k) ψ:=by
  intro w Z hi hs hk hd
  have W:=Fun.start hi hs hk hd
  obtain ⟨a,hf,h2⟩:=(W.bankAt hx).boxO
  have h3:Sym w (fun b=>Z b≠none) I I ((Fw.pto b (B.obj a z) :: (B.more a z++k))++[BQ B (CM b xs)]) w:=by
    refine h2.perm ?_
    rw [List.cons_append,List.append_assoc]
    exact List.Perm.cons _ (List.Perm.append_left _ (List.perm_append_comm (l₁:=[BQ B (CM b xs)]) (l₂:=k)))
  refine (hw a hf).use h3 fun v D U w' O hφ Y=>?_
  obtain ⟨a',G,J,rfl,V,hψ⟩:=h a D v U O hφ
  refine ⟨v,D,_,rfl,O,hψ,?_⟩
  have h4:Sym w (fun b=>Z b≠none) I D (Fw.pto b (B.obj a' G) :: (B.more a' G++BQ B (CM b xs) :: J)) w':=by
    refine Y.perm ?_
    rw [List.cons_append,List.append_assoc]
    exact List.Perm.cons _ (List.Perm.append_left _ (List.perm_append_comm (l₁:=J) (l₂:=[BQ B (CM b xs)])))
  exact (h4.boxC V).bankIn
theorem Fun.bankR {f:FuncId} {args:Array Value} {ψ:IH→Value→List HA→Prop} {φ:B.A→IH→Value→List HA→Prop} {k:List HA} (Z:BN b xs=some z)
    (hw:∀ a,B.fact I a z→Fun P f args I (pto b (B.obj a z) :: (B.more a z++k)) (φ a))
    (h:∀ a D v O,I.le D→B.fact I a z→φ a D v O→∃ (a':B.A) (G:List HA),O=pto b (B.obj a' z) :: (B.more a' z++G)∧B.fact D a' z∧ψ D v (BQ B xs :: G)):Fun P f args I (BQ B xs :: k) ψ:=by
  intro w Y hi hs hk hd
  have V:=Fun.start hi hs hk hd
  obtain ⟨a,hf,h2⟩:=(V.bankAt Z).boxO
  have h3:Sym w (fun b=>Y b≠none) I I ((Fw.pto b (B.obj a z) :: (B.more a z++k))++[BQ B (CM b xs)]) w:=by
    refine h2.perm ?_
    rw [List.cons_append,List.append_assoc]
    exact List.Perm.cons _ (List.Perm.append_left _ (List.perm_append_comm (l₁:=[BQ B (CM b xs)]) (l₂:=k)))
  refine (hw a hf).use h3 fun v D O w' J hφ W=>?_
  obtain ⟨a',G,rfl,U,hψ⟩:=h a D v O J hf hφ
  refine ⟨v,D,_,rfl,J,hψ,?_⟩
  have h4:Sym w (fun b=>Y b≠none) I D (Fw.pto b (B.obj a' z) :: (B.more a' z++BQ B (CM b xs) :: G)) w':=by
    refine W.perm ?_
    rw [List.cons_append,List.append_assoc]
    exact List.Perm.cons _ (List.Perm.append_left _ (List.perm_append_comm (l₁:=G) (l₂:=[BQ B (CM b xs)])))
  exact (h4.boxC U).bankBack Z
theorem Ops.callPc {x:Operand} {g:FuncId} {args:List Operand} {vs:List Value} {G:Array TypeId} {ψ:Value→Prop} (V:∀ as w,(callFunc g as).run P w=.ok (.enter g as) w)
    (hx:ev E x=some (.func (.func g) #[] #[])) (Z:xT E args=some vs) (hf:BR P g vs I fun _=>ψ) (W:Nat.blt d n.sz=true) (O:fresh E d=true)
    (k:∀ v,ψ v→Ops P ops l n ((d,v) :: E) (Sym w0 M I0 I m) Q) :
    Ops P ops (⟨some d,.call ⟨.value x,args.toArray,G⟩,ty,pos,af,none⟩ :: l) n E (Sym w0 M I0 I m) Q:=by
  intro c w D U
  refine wpListIn_plain rfl fun K hK=>?_
  have he:=Enters.c (n:=n) (S:=fun _=>True) V hx Z (some d) G ty pos af c w D trivial
  simp only [List.nil_append,List.append_nil] at he
  refine cG he (by simp) ?_
  simp only [Oper.uponIn]
  refine ⟨fun h=>(by cases h),fC ((hf w (fun _=>none) U.imm trivial (fun _ _ x=>nomatch x) (fun _=>.inr rfl)).mono fun e w' J=>?_)⟩
  obtain ⟨v,J',l',rfl,_,⟨_,hψ⟩,hs'⟩:=J
  exact hK _ _ (k v hψ _ _ (D.put W O v) (U.grown ⟨hs'.base.os,hs'.base.tape,hs'.base.output,hs'.base.drawn,hs'.base.size,fun b Y _=>hs'.base.block b Y (by simp)⟩))
end Go.Fw
