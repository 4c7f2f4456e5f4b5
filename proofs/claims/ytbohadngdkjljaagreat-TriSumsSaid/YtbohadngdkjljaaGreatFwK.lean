/- The engine, part K: boxes by their addresses. -/
import Derived.Test.YtbohadngdkjljaaGreatFwW
import Derived.Sort.LoopGhostIn
namespace Go.Fw
open Go Go.RowKit
variable {w0 w:World} {M:Nat→Prop} {I0 I:IH} {m m':List HA}
variable {P:Program} {n:FrK} {E:DH} {S:World→Prop} {Q:Exit→Act→World→Prop} {ops:Array Oper} {l:List Oper}
variable {d ty:Nat} {pos:String} {af:Array Edge} {T e:TypeId} {x y:Operand} {α:Type}
structure BoxTy (α:Type) where
  A:Type
  fact:IH→A→α→Prop
  mono:∀ {I J:IH} {a:A} {x:α},I.le J→fact I a x→fact J a x
  obj:A→α→Obj
  more:A→α→List HA
def BoxTy.at (B:BoxTy α) (b:Nat) (x:α):HA where
  holds I h:=∃ a,B.fact I a x∧MQ (pto b (B.obj a x) :: B.more a x) I h
  mono:=fun hI hh ⟨a,h1,h2⟩=>⟨a,B.mono hI h1,KJ hI hh h2⟩
def BK (B:BoxTy α) (xs:List (Nat×α)):HA where
  holds I h:=MQ (xs.map fun p=>B.at p.1 p.2) I h
  mono:=fun hI hh h=>KJ (l:=xs.map fun p=>B.at p.1 p.2) hI hh h
abbrev mkA (o:Option Nat):Option Addr:=o.map fun b=>⟨b,0,none⟩
abbrev UC:EL (Int×Int×Int):=JI 3 (fun x=>[.int .i64 x.1,.int .i64 x.2.1,.int .i64 x.2.2]) (fun _=>⟨rfl,rfl⟩)
abbrev CQ:EL (Option Nat):=JI 1 (fun o=>[.pointer (mkA o)]) (fun _=>⟨rfl,rfl⟩)
def FY (xs:List (Nat×α)) (t:Option Nat) (K:Nat→α→Prop):Prop:=∃ b x,t=some b∧BM b xs=some x∧K b x
def AhF (xs:List (Nat×α)) (K:Nat→Prop):Prop:=∀ b,BM b xs=none→K b
def vH (xs:List (Nat×α)) (b:Nat) (K:α→Prop):Prop:=∃ x,BM b xs=some x∧K x
def qZ (t:Option Nat) (A:Prop) (B:Nat→Prop):Prop:=(t=none→A)∧∀ b,t=some b→B b
variable {B:BoxTy α} {xs ys:List (Nat×α)} {b:Nat} {z:α}
theorem ZQ:∀ {xs:List (Nat×α)},BM b xs=some z→∃ l1 l2,xs=l1++(b,z) :: l2∧CG b xs=l1++l2
  | p :: r,h=>by
    unfold BM at h
    unfold CG
    split at h
    · rename_i e
      subst e
      cases h
      rw [if_pos rfl]
      exact ⟨[],r,rfl,rfl⟩
    · rename_i e
      rw [if_neg e]
      obtain ⟨l1,l2,h1,h2⟩:=ZQ h
      exact ⟨p :: l1,l2,by rw [h1]; rfl,by rw [h2]; rfl⟩
theorem Y8 {α:Type} {A:α}:∀ {l1 l2:List HA} {A:HA},Del (l1++A :: l2) A (l1++l2)
  | [],_,_=>.z
  | _ :: _,_,_=>.s (Y8 (α:=α) (A:=A))
theorem Sym.bankAt (h:Sym w0 M I0 I (BK B xs :: m) w) (hx:BM b xs=some z):Sym w0 M I0 I (B.at b z :: BK B (CG b xs) :: m) w:=by
  obtain ⟨l1,l2,e1,e2⟩:=ZQ hx
  refine h.unfoldL fun k hk=>⟨_,hk,fun h'=>?_⟩
  have hd:Del ((xs.map fun p=>B.at p.1 p.2)++m) (B.at b z) (((CG b xs).map fun p=>B.at p.1 p.2)++m):=by
    rw [e2,e1,List.map_append,List.map_cons,List.map_append,List.append_assoc,List.append_assoc]
    exact Y8 (α:=Nat) (A:=0)
  exact (h'.del hd).foldL2 fun k hk=>hk
theorem Sym.bankIn (h:Sym w0 M I0 I (B.at b z :: BK B ys :: m) w):Sym w0 M I0 I (BK B ((b,z) :: ys) :: m) w:=by
  have h1:Sym w0 M I0 I (BK B ys :: B.at b z :: m) w:=h.del (.s .z)
  refine h1.unfoldL fun k hk=>⟨_,hk,fun h'=>?_⟩
  have hd:Del ((ys.map fun p=>B.at p.1 p.2)++B.at b z :: m) (B.at b z) ((ys.map fun p=>B.at p.1 p.2)++m):=Y8 (α:=Nat) (A:=0)
  have h2:Sym w0 M I0 I ((((b,z) :: ys).map fun p=>B.at p.1 p.2)++m) w:=h'.del hd
  exact h2.foldL fun k hk=>hk
theorem Sym.bankBack (h:Sym w0 M I0 I (B.at b z :: BK B (CG b xs) :: m) w) (hx:BM b xs=some z):Sym w0 M I0 I (BK B xs :: m) w:=by
  obtain ⟨l1,l2,e1,e2⟩:=ZQ hx
  have h1:Sym w0 M I0 I (BK B (CG b xs) :: B.at b z :: m) w:=h.del (.s .z)
  refine h1.unfoldL fun k hk=>⟨_,hk,fun h'=>?_⟩
  have hd:Del (((CG b xs).map fun p=>B.at p.1 p.2)++B.at b z :: m) (B.at b z) (((CG b xs).map fun p=>B.at p.1 p.2)++m):=Y8 (α:=Nat) (A:=0)
  have h2:=h'.del hd
  have hu:Del ((xs.map fun p=>B.at p.1 p.2)++m) (B.at b z) (((CG b xs).map fun p=>B.at p.1 p.2)++m):=by
    rw [e2,e1,List.map_append,List.map_cons,List.map_append,List.append_assoc,List.append_assoc]
    exact Y8 (α:=Nat) (A:=0)
  exact (h2.undel hu).foldL fun k hk=>hk
theorem Sym.boxO (h:Sym w0 M I0 I (B.at b z :: m) w):∃ a,B.fact I a z∧Sym w0 M I0 I (Fw.pto b (B.obj a z) :: (B.more a z++m)) w:=by
  refine h.unfoldL fun k ⟨a,hf,hk⟩=>⟨_,hk,fun h'=>⟨a,hf,h'⟩⟩
theorem Sym.boxC {a:B.A} (hf:B.fact I a z) (h:Sym w0 M I0 I (Fw.pto b (B.obj a z) :: (B.more a z++m)) w):Sym w0 M I0 I (B.at b z :: m) w:=
  Sym.foldL (L:=Fw.pto b (B.obj a z) :: B.more a z) h fun _ hk=>⟨a,hf,hk⟩
theorem Sym.fresh {o:Obj} (h:Sym w0 M I0 I (Fw.pto b o :: BK B ys :: m) w):BM b ys=none:=by
  cases hg:BM b ys with
  | none=>rfl
  | some z=>
    exfalso
    have h1:=(h.del (.s .z)).bankAt hg
    obtain ⟨a,_,h2⟩:=h1.boxO
    have hd:Del (Fw.pto b (B.obj a z) :: (B.more a z++BK B (CG b ys) :: Fw.pto b o :: m)) (Fw.pto b o) (Fw.pto b (B.obj a z) :: (B.more a z++BK B (CG b ys) :: m)):=by
      refine .s ?_
      have:=@Y8 Nat 0 (B.more a z++[BK B (CG b ys)]) m (Fw.pto b o)
      simpa using this
    have h3:=h2.del hd
    obtain ⟨k,hk,_⟩:=h3.own
    obtain ⟨k1,k2,hdj,_,_,ha,k3,k4,_,hl3,_,hb,_⟩:=hk
    have e1:k1 b=some o:=ha
    have e2:k2 b=some (B.obj a z):=hl3 _ _ hb
    rcases hdj b with h' | h'
    · rw [e1] at h'; cases h'
    · rw [e2] at h'; cases h'
theorem Sym.bank0 (B:BoxTy α) (h:Sym w0 M I0 I m w):Sym w0 M I0 I (BK B [] :: m) w:=Sym.foldL (L:=[]) h fun _ _=>trivial
theorem VE {mf mr:List HA} (h:Sym w0 M I0 I m w) (ho:Outs m mf mr):Sym w0 M I0 I (mf++mr) w:=h.perm ho.perm
theorem Ops.bank0 (B:BoxTy α) (g:Ops P ops l n E (Sym w0 M I0 I (BK B [] :: m)) Q):Ops P ops l n E (Sym w0 M I0 I m) Q:=Ops.pre (fun _ h=>h.bank0 B) g
theorem Cod.bank0 {c:Code} (B:BoxTy α) (g:Cod P c n E (Sym w0 M I0 I (BK B [] :: m)) Q):Cod P c n E (Sym w0 M I0 I m) Q:=Cod.pre (fun _ h=>h.bank0 B) g
theorem Ops.bankO (hA:Del m (BK B xs) m') (hx:BM b xs=some z) (g:∀ a,B.fact I a z→Ops P ops l n E (Sym w0 M I0 I (pto b (B.obj a z) :: (B.more a z++BK B (CG b xs) :: m'))) Q):Ops P ops l n E (Sym w0 M I0 I m) Q:=
  fun c w ho hs=>by obtain ⟨a,hf,h⟩:=((hs.del hA).bankAt hx).boxO; exact g a hf c w ho h
theorem Ops.bankC {mr:List HA} (a:B.A) (z:α) (hf:B.fact I a z) (ho:Outs m (pto b (B.obj a z) :: (B.more a z++[BK B ys])) mr) (g:Ops P ops l n E (Sym w0 M I0 I (BK B ((b,z) :: ys) :: mr)) Q):Ops P ops l n E (Sym w0 M I0 I m) Q:=
  fun c w hok h=>by
    have h1:=VE h ho
    have h2:Sym w0 M I0 I (Fw.pto b (B.obj a z) :: (B.more a z++BK B ys :: mr)) w:=by simpa using h1
    exact g c w hok (h2.boxC hf).bankIn
theorem Ops.bankB {mr:List HA} (a:B.A) (z:α) (hf:B.fact I a z) (hx:BM b xs=some z) (ho:Outs m (pto b (B.obj a z) :: (B.more a z++[BK B (CG b xs)])) mr) (g:Ops P ops l n E (Sym w0 M I0 I (BK B xs :: mr)) Q):Ops P ops l n E (Sym w0 M I0 I m) Q:=
  fun c w hok h=>by
    have h1:=VE h ho
    have h2:Sym w0 M I0 I (Fw.pto b (B.obj a z) :: (B.more a z++BK B (CG b xs) :: mr)) w:=by simpa using h1
    exact g c w hok ((h2.boxC hf).bankBack hx)
theorem Ops.bankP {mr:List HA} (a:B.A) (z:α) (hf:B.fact I a z) (ho:Outs m (pto b (B.obj a z) :: (B.more a z++[BK B ys])) mr) (g:BM b ys=none→Ops P ops l n E (Sym w0 M I0 I (BK B ((b,z) :: ys) :: mr)) Q):Ops P ops l n E (Sym w0 M I0 I m) Q:=
  fun c w hok h=>by
    have h1:=VE h ho
    have h2:Sym w0 M I0 I (Fw.pto b (B.obj a z) :: (B.more a z++BK B ys :: mr)) w:=by simpa using h1
    have h3:Sym w0 M I0 I (Fw.pto b (B.obj a z) :: BK B ys :: (B.more a z++mr)) w:=by
      refine h2.perm (List.Perm.cons _ ?_)
      exact List.perm_middle
    exact g h3.fresh c w hok (h2.boxC hf).bankIn
theorem Cod.bankO {c:Code} (hA:Del m (BK B xs) m') (hx:BM b xs=some z) (g:∀ a,B.fact I a z→Cod P c n E (Sym w0 M I0 I (pto b (B.obj a z) :: (B.more a z++BK B (CG b xs) :: m'))) Q):Cod P c n E (Sym w0 M I0 I m) Q:=
  fun c w ho hs=>by obtain ⟨a,hf,h⟩:=((hs.del hA).bankAt hx).boxO; exact g a hf c w ho h
theorem Cod.bankC {c:Code} {mr:List HA} (a:B.A) (z:α) (hf:B.fact I a z) (ho:Outs m (pto b (B.obj a z) :: (B.more a z++[BK B ys])) mr) (g:Cod P c n E (Sym w0 M I0 I (BK B ((b,z) :: ys) :: mr)) Q):Cod P c n E (Sym w0 M I0 I m) Q:=
  fun c w hok h=>by
    have h1:=VE h ho
    have h2:Sym w0 M I0 I (Fw.pto b (B.obj a z) :: (B.more a z++BK B ys :: mr)) w:=by simpa using h1
    exact g c w hok (h2.boxC hf).bankIn
theorem Cod.bankB {c:Code} {mr:List HA} (a:B.A) (z:α) (hf:B.fact I a z) (hx:BM b xs=some z) (ho:Outs m (pto b (B.obj a z) :: (B.more a z++[BK B (CG b xs)])) mr) (g:Cod P c n E (Sym w0 M I0 I (BK B xs :: mr)) Q):Cod P c n E (Sym w0 M I0 I m) Q:=
  fun c w hok h=>by
    have h1:=VE h ho
    have h2:Sym w0 M I0 I (Fw.pto b (B.obj a z) :: (B.more a z++BK B (CG b xs) :: mr)) w:=by simpa using h1
    exact g c w hok ((h2.boxC hf).bankBack hx)
theorem Cod.bankP {c:Code} {mr:List HA} (a:B.A) (z:α) (hf:B.fact I a z) (ho:Outs m (pto b (B.obj a z) :: (B.more a z++[BK B ys])) mr) (g:BM b ys=none→Cod P c n E (Sym w0 M I0 I (BK B ((b,z) :: ys) :: mr)) Q):Cod P c n E (Sym w0 M I0 I m) Q:=
  fun c w hok h=>by
    have h1:=VE h ho
    have h2:Sym w0 M I0 I (Fw.pto b (B.obj a z) :: (B.more a z++BK B ys :: mr)) w:=by simpa using h1
    have h3:Sym w0 M I0 I (Fw.pto b (B.obj a z) :: BK B ys :: (B.more a z++mr)) w:=by
      refine h2.perm (List.Perm.cons _ ?_)
      exact List.perm_middle
    exact g h3.fresh c w hok (h2.boxC hf).bankIn
theorem vI (t:Option Nat):(mkA t).isNone=t.isNone:=by cases t <;> rfl
theorem Ops.eqNilH {t:Option Nat} {T':TypeId} {u:TypeId} (hT:P.underlying T=some (.pointer u)) (hx:ev E x=some (.pointer (mkA t))) (hy:ev E y=some (.pointer none)) (hb:Nat.blt d n.sz=true) (hf:fresh E d=true)
    (k:Ops P ops l n ((d,.bool t.isNone) :: E) S Q):Ops P ops (⟨some d,.binOp .eql T x y T',ty,pos,af,none⟩ :: l) n E S Q:=Ops.eqNilP hT hx hy hb hf (by rw [vI]; exact k)
theorem AeC {κ:Type} [DecidableEq κ] {ke:κ→Value} {g1 g2:κ→Int} {q1 q2:IntKind} {kt:TypeId} {f1 f2:Field} (hk:∀ k,ke k=.agg #[.int q1 (g1 k),.int q2 (g2 k)]) (hA:P.underlying kt=some (.struct #[f1,f2]))
    (h1:P.underlying f1.type=some (.int q1)) (h2:P.underlying f2.type=some (.int q2)) (o1:f1.offset=0) (o2:f2.offset=1) (a1:∀ w,(isAgg f1.type).run P w=.ok false w) (a2:∀ w,(isAgg f2.type).run P w=.ok false w)
    (heq:∀ (k x:κ) (w:World),(Op.equal kt (ke k) (ke x)).run P w=.ok (decide (k=x)) w):X4 P kt ke:=by
  refine AbK hA (fun k x=>by rw [hk,hk]; rfl) heq (fun em k w=>?_) (fun k=>by rw [hk]; simp [Instr.sameBits])
  rw [hk]
  show (Instr.checkKey em (9998+1+1) kt _).run P w=_
  unfold Instr.checkKey
  simp only [Sem.run_bind,run_underlying hA,Result.andThen_ok]
  have hc:∀ {e:TypeId} {q:IntKind} (he:P.underlying e=some (.int q)) (a:Int) (w:World),(Instr.checkKey em (9998+1) e (.int q a)).run P w=.ok () w:=fun he a w=>by
    unfold Instr.checkKey
    simp only [Sem.run_bind,run_underlying he,Result.andThen_ok]
    rfl
  simp [part,a1,a2,o1,o2,hc h1,hc h2]
  repeat' split
  all_goals simp [part,a1,a2,o1,o2,hc h1,hc h2]
theorem AeD (d:Nat) {t e:TypeId} {i:TypeInfo} (hA:P.underlying t=some (.array 3 e)) (hi:P.info? e=some i) (he:P.underlying e=some (.int .i64)) (hs:P.cellsOf e=1) (ha:∀ w,(isAgg e).run P w=.ok false w) (k x:Int×Int×Int) (w:World) :
    (Op.equalIn (d+2) t (.agg #[.int .i64 k.1,.int .i64 k.2.1,.int .i64 k.2.2]) (.agg #[.int .i64 x.1,.int .i64 x.2.1,.int .i64 x.2.2])).run P w=.ok (k==x) w:=by
  obtain ⟨k1,k2,k3⟩:=k
  obtain ⟨x1,x2,x3⟩:=x
  rw [run_equalIn_array w (d+1) _ _ hA hi]
  have h1:=fun a b=>run_equalIn_int (P:=P) w d e .i64 .i64 a b he
  simp only [hs,show List.range 3=[0,1,2] from rfl,Op.eqItems,Sem.run_bind,part,ha,Result.andThen_ok]
  simp [h1]
  by_cases e1:k1=x1
  · by_cases e2:k2=x2
    · by_cases e3:k3=x3 <;> simp [e1,e2,e3,ha,h1]
    · simp [e1,e2,ha,h1]
  · simp [e1]
def Unr (P:Program) (c:Code) (n:FrK) (Q:Exit→Act→World→Prop):Nat→Act→World→Prop
  | 0=>fun _ _=>False
  | k+1=>fun a w=>c.wpIn (RJ n) 0 P (Exit.then (Unr P c n Q k) Q) a w
theorem Unr.mk {c:Code} {k:Nat} {a:Act} {w:World} (h:c.wpIn (RJ n) 0 P (Exit.then (Unr P c n Q k) Q) a w):Unr P c n Q (k+1) a w:=h
theorem Cod.unroll {c:Code} (k:Nat) (h:Cod P c n E S (Exit.then (Unr P c n Q k) Q)):Cod P (.loop c) n E S Q:=by
  intro a w ho hs
  refine wpIn_loop_ghost (Unr P c n Q) (k+1) (h a w ho hs) fun m a w hm=>?_
  cases m with
  | zero=>exact hm.elim
  | succ m=>
    refine Code.wpIn_mono (fun e a' w' q=>?_) hm
    cases e <;> try exact q
    exact ⟨m,by omega,q⟩
theorem Fun.frame {f:FuncId} {args:Array Value} {φ:IH→Value→List HA→Prop} {k r:List HA} (hf:Fun P f args I k φ):Fun P f args I (k++r) fun I' v l'=>∃ l1,l'=l1++r∧φ I' v l1:=by
  intro w h hi hs hk hd
  refine hf.use (Fun.start hi hs hk hd) fun v I' l' w' hle hφ hs'=>?_
  exact ⟨v,I',_,rfl,hle,⟨l',rfl,hφ⟩,hs'⟩
theorem Fun.conseq {f:FuncId} {args:Array Value} {φ ψ:IH→Value→List HA→Prop} {k:List HA} (hf:Fun P f args I k φ) (h:∀ I' v l',I.le I'→φ I' v l'→ψ I' v l'):Fun P f args I k ψ:=by
  intro w h1 hi hs hk hd
  refine (hf w h1 hi hs hk hd).mono fun e w'=>?_
  rintro ⟨v,I',l',he,hle,hφ,hs'⟩
  exact ⟨v,I',l',he,hle,h _ _ _ hle hφ,hs'⟩
theorem Fun.bank {f:FuncId} {args:Array Value} {ψ:IH→Value→List HA→Prop} {φ:B.A→IH→Value→List HA→Prop} {k:List HA} (hx:BM b xs=some z)
    (hw:∀ a,B.fact I a z→Fun P f args I (pto b (B.obj a z) :: (B.more a z++k)) (φ a))
    (h:∀ a I' v l',I.le I'→φ a I' v l'→∃ (a':B.A) (z':α) (l1:List HA),l'=pto b (B.obj a' z') :: (B.more a' z'++l1)∧B.fact I' a' z'∧ψ I' v (BK B ((b,z') :: CG b xs) :: l1)):Fun P f args I (BK B xs :: k) ψ:=by
  intro w h1 hi hs hk hd
  have hst:=Fun.start hi hs hk hd
  obtain ⟨a,hf,h2⟩:=(hst.bankAt hx).boxO
  have h3:Sym w (fun b=>h1 b≠none) I I ((Fw.pto b (B.obj a z) :: (B.more a z++k))++[BK B (CG b xs)]) w:=by
    refine h2.perm ?_
    rw [List.cons_append,List.append_assoc]
    exact List.Perm.cons _ (List.Perm.append_left _ (List.perm_append_comm (l₁:=[BK B (CG b xs)]) (l₂:=k)))
  refine (hw a hf).use h3 fun v I' l' w' hle hφ hs'=>?_
  obtain ⟨a',z',l1,rfl,hf',hψ⟩:=h a I' v l' hle hφ
  refine ⟨v,I',_,rfl,hle,hψ,?_⟩
  have h4:Sym w (fun b=>h1 b≠none) I I' (Fw.pto b (B.obj a' z') :: (B.more a' z'++BK B (CG b xs) :: l1)) w':=by
    refine hs'.perm ?_
    rw [List.cons_append,List.append_assoc]
    exact List.Perm.cons _ (List.Perm.append_left _ (List.perm_append_comm (l₁:=l1) (l₂:=[BK B (CG b xs)])))
  exact (h4.boxC hf').bankIn
theorem Fun.bankR {f:FuncId} {args:Array Value} {ψ:IH→Value→List HA→Prop} {φ:B.A→IH→Value→List HA→Prop} {k:List HA} (hx:BM b xs=some z)
    (hw:∀ a,B.fact I a z→Fun P f args I (pto b (B.obj a z) :: (B.more a z++k)) (φ a))
    (h:∀ a I' v l',I.le I'→B.fact I a z→φ a I' v l'→∃ (a':B.A) (l1:List HA),l'=pto b (B.obj a' z) :: (B.more a' z++l1)∧B.fact I' a' z∧ψ I' v (BK B xs :: l1)):Fun P f args I (BK B xs :: k) ψ:=by
  intro w h1 hi hs hk hd
  have hst:=Fun.start hi hs hk hd
  obtain ⟨a,hf,h2⟩:=(hst.bankAt hx).boxO
  have h3:Sym w (fun b=>h1 b≠none) I I ((Fw.pto b (B.obj a z) :: (B.more a z++k))++[BK B (CG b xs)]) w:=by
    refine h2.perm ?_
    rw [List.cons_append,List.append_assoc]
    exact List.Perm.cons _ (List.Perm.append_left _ (List.perm_append_comm (l₁:=[BK B (CG b xs)]) (l₂:=k)))
  refine (hw a hf).use h3 fun v I' l' w' hle hφ hs'=>?_
  obtain ⟨a',l1,rfl,hf',hψ⟩:=h a I' v l' hle hf hφ
  refine ⟨v,I',_,rfl,hle,hψ,?_⟩
  have h4:Sym w (fun b=>h1 b≠none) I I' (Fw.pto b (B.obj a' z) :: (B.more a' z++BK B (CG b xs) :: l1)) w':=by
    refine hs'.perm ?_
    rw [List.cons_append,List.append_assoc]
    exact List.Perm.cons _ (List.Perm.append_left _ (List.perm_append_comm (l₁:=l1) (l₂:=[BK B (CG b xs)])))
  exact (h4.boxC hf').bankBack hx
theorem Ops.callPc {x:Operand} {g:FuncId} {args:List Operand} {vs:List Value} {tys:Array TypeId} {ψ:Value→Prop} (hg:∀ as w,(callFunc g as).run P w=.ok (.enter g as) w)
    (hx:ev E x=some (.func (.func g) #[] #[])) (ha:qF E args=some vs) (hf:BW P g vs I fun _=>ψ) (hb:Nat.blt d n.sz=true) (hfr:fresh E d=true)
    (k:∀ v,ψ v→Ops P ops l n ((d,v) :: E) (Sym w0 M I0 I m) Q) :
    Ops P ops (⟨some d,.call ⟨.value x,args.toArray,tys⟩,ty,pos,af,none⟩ :: l) n E (Sym w0 M I0 I m) Q:=by
  intro c w hok hs
  refine wpListIn_plain rfl fun K hK=>?_
  have he:=Enters.c (n:=n) (S:=fun _=>True) hg hx ha (some d) tys ty pos af c w hok trivial
  simp only [List.nil_append,List.append_nil] at he
  refine aM he (by simp) ?_
  simp only [Oper.uponIn]
  refine ⟨fun h=>(by cases h),dJ ((hf w (fun _=>none) hs.imm trivial (fun _ _ x=>nomatch x) (fun _=>.inr rfl)).mono fun e w' ha'=>?_)⟩
  obtain ⟨v,J',l',rfl,_,⟨_,hψ⟩,hs'⟩:=ha'
  exact hK _ _ (k v hψ _ _ (hok.put hb hfr v) (hs.grown ⟨hs'.base.os,hs'.base.tape,hs'.base.output,hs'.base.drawn,hs'.base.size,fun b h1 _=>hs'.base.block b h1 (by simp)⟩))
end Go.Fw
