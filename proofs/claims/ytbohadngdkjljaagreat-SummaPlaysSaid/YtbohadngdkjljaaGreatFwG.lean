/- The engine. -/
import Derived.Test.YtbohadngdkjljaaGreatFwF
namespace Go.Fw
open Go Go.RowKit
variable {w0 w:World} {M:Nat→Prop} {I0 I:IH} {m m':List HA}
variable {P:Program} {n:FrK} {E:DA} {S:World→Prop} {Q:Exit→Act→World→Prop} {ops:Array Oper} {l:List Oper}
variable {d ty:Nat} {pos:String} {af:Array Edge} {T e:TypeId} {x y:Operand}
variable {α:Type} {El:F0 α} {xs ys:List α} {a:Option Addr} {cap:Nat}
/-! ### Pure parts -/
variable {parts:List (Nat×Operand)} {len:Nat} {φ:IH→Value→List HA→Prop}
def uN (xs:List α) (lo hi:Int) (K:List α→Prop):Prop:=0≤lo∧lo≤hi∧hi≤(xs.length:Int)∧K ((xs.take hi.toNat).drop lo.toNat)
def nzP (b:Int) (K:Prop):Prop:=b≠0∧K
def mkP (B:Nat) (c:Int) (z:α) (K:List α→Prop):Prop:=0≤c∧c*B≤140737488355328∧K (List.replicate c.toNat z)
def EC {σ:Type} (m:(σ→Prop)→Prop) (k:σ→Prop):Prop:=m k
theorem BC {i:Int} {v:α} (h:xs[i.toNat]? = some v) (h0:0≤i):i<(xs.length:Int):=by
 have:=(List.getElem?_eq_some_iff.1 h).1; omega
theorem CD {i:Nat} {v:α} (h:xs[i]? = some v):xs≠[]:=fun e=>by subst e; simp at h
theorem split {G:Prop} (b:Bool) (h1:b=true→G) (h0:b=false→G):G:=by cases b <;> simp_all
theorem Cod.joinQ {σ:Type} {c:Code} {D:(σ→Prop)→Prop} {k:σ→Prop} (J:EC D k) (G:σ→Act→World→Prop) (O:∀ k,D k→Cod P c n E S (Exit.then (fun a w=>∃ s,k s∧G s a w) Q))
  (U:∀ s,k s→∀ a w,G s a w→Q .normal a w):Cod P c n E S Q:=
 fun a w W V=>Code.wpIn_mono (fun e a w q=>by cases e <;> first | exact q | exact (let ⟨s,hk,h⟩:=q; U s hk a w h)) (O k J a w W V)
inductive Pick:List HA→List HA→Prop
 | n {l:List HA}:Pick l []
 | c {l m r:List HA} {A:HA} (h:Del l A m) (k:Pick m r):Pick l (A :: r)
theorem uO {l r:List HA} (hp:Pick l r):∀ {h:IH},OU l I h→OU r I h:=by
 induction hp with
 | n=>intros; trivial
 | c Z _ V=>
  intro h U
  obtain ⟨h1,Y,J,O,D,W,G⟩:=eC Z U
  exact ⟨h1,Y,J,O,D,W,V G⟩
theorem Sym.pick (h:Sym w0 M I0 I m w) (hp:Pick m m'):Sym w0 M I0 I m' w:=by
 obtain ⟨D,hi,G,k,O,hk,J,U⟩:=h
 exact ⟨D,hi,G,k,uO hp O,hk,J,U⟩
theorem Cod.ownF {c:Code} (J:Del m (OwnSl El T a cap xs) m') (k:(xs≠[]→∃ b,a=some ⟨b,0,none⟩)→Cod P c n E (Sym w0 M I0 I m) Q):Cod P c n E (Sym w0 M I0 I m) Q:=by
 intro c w V D
 refine k (fun h=>?_) c w V D
 obtain ⟨k1,O,_⟩:=(D.del J).get
 rcases O with ⟨_,G,_⟩ | ⟨b,_,U,_⟩
 · exact absurd G h
 · exact ⟨b,U⟩
theorem Ops.ownNe (J:Del m (OwnSl El T a cap xs) m') (h:xs≠[]) (k:∀ b,a=some ⟨b,0,none⟩→Ops P ops l n E (Sym w0 M I0 I m) Q):Ops P ops l n E (Sym w0 M I0 I m) Q:=by
 intro c w V D
 obtain ⟨k1,O,_⟩:=(D.del J).get
 rcases O with ⟨_,G,_⟩ | ⟨b,_,U,_⟩
 · exact absurd G h
 · exact k b U c w V D
inductive bC (E:DA) (s:Nat):Nat→List (Nat×Operand)→List Value→Prop
 | n {i:Nat}:bC E s i [] []
 | c {i:Nat} {x:Operand} {v:Value} {vs cs:List Value} {r:List (Nat×Operand)} (hx:ev E x=some v) (hv:cellsOf v=vs) (hl:vs.length=s) (k:bC E s (i+1) r cs):bC E s i ((i,x) :: r) (vs++cs)
theorem qR {s:Nat} {ev':Operand→Value} (he:∀ x v,ev E x=some v→ev' x=v) {i:Nat} {cs:List Value} (h:bC E s i parts cs) :
  ∀ z:Array Value,z.size=i*s+parts.length*s→Instr.fill (fun i=>some (i*s,s)) z (parts.map fun p=>(p.1,ev' p.2))=some (z.toList.take (i*s)++cs).toArray:=by
 induction h with
 | n=>intro z D; simp at D; simp only [List.map_nil,Instr.fill,List.append_nil]; rw [List.take_of_length_le (by simp; omega)]
 | @c i x v vs cs r Y G U k J=>
  intro z D
  simp only [List.length_cons,Nat.add_mul,Nat.one_mul] at D
  have W:(ev' x).cells=vs.toArray:=by rw [he x v Y,Q3,G]
  simp only [List.map_cons,Instr.fill,W]
  rw [if_neg (by simp; omega)]
  have O:vs.toArray.zipIdx.foldl (fun cs (p:Value×Nat)=>cs.setIfInBounds (i*s+p.2) p.1) z=(z.toList.take (i*s)++vs++z.toList.drop (i*s+vs.length)).toArray:=by
   rw [←Array.foldl_toList,Array.toList_zipIdx,YV vs (i*s) 0 z (by omega)]
   simp
  rw [O,J _ (by simp [Nat.add_mul]; omega)]
  congr 2
  have V:(i+1)*s=(z.toList.take (i*s)++vs).length:=by simp [Nat.add_mul,U]; omega
  rw [V,List.take_left' rfl]
  simp
theorem Ops.buildSlice {s:Nat} {z:Value} {cs:List Value} (k:Nat) (V:P.underlying T=some (.slice e)) (Z:∀ w,(sizeOf e).run P w=.ok s w) (hz:∀ w,(zeroValue e).run P w=.ok z w)
  (hk:k=parts.length) (G:Nat.ble (k*s) 16777216=true) (hp:bC E s 0 parts cs) (U:Nat.blt d n.sz=true) (hf:fresh E d=true)
  (Y:∀ b,Ops P ops l n ((d,.slice (some ⟨b,0,none⟩) k k) :: E) (Sym w0 M I0 I (pto b (.cells cs.toArray e) :: m)) Q) :
  Ops P ops (⟨some d,.buildSlice T k parts.toArray,ty,pos,af,none⟩ :: l) n E (Sym w0 M I0 I m) Q:=
 Ops.valx (fun v w'=>∃ b,v=.slice (some ⟨b,0,none⟩) k k∧Sym w0 M I0 I (pto b (.cells cs.toArray e) :: m) w') rfl rfl
  (fun c w J h=>⟨.slice (some ⟨w.heap.size,0,none⟩) k k,w.alloc (.cells cs.toArray e),by
   have hl:¬k*s > 16777216:=by have:=Nat.le_of_ble_eq_true G; omega
   have D:=fun O:Array Value=>qR (ev':=c.eval) (fun x v hx=>J.eval hx) hp ((Array.range (k*s)).map (O[· % O.size]!)) (by simp [hk])
   have e1:(Array.map (fun (x:Nat×Operand)=>(x.1,c.eval x.2)) parts.toArray).toList=parts.map fun p=>(p.1,c.eval p.2):=by simp
   have e2:(Array.map (fun x=>match x with | (i,x)=>(i,c.eval x)) parts.toArray).toList=parts.map fun p=>(p.1,c.eval p.2):=e1
   simp only [execOp,Instr.buildSlice,Sem.run_bind,run_underlying V,Result.andThen_ok,Z,hl,if_false,e2]
   simp only [D]
   by_cases hks:k*s=0 <;> simp [hks,newRow,hz],_,rfl,h.alloc _⟩) U hf
  (fun v c w J ⟨b,W,h⟩=>by subst W; exact Y b c w J h)
theorem Ops.pubB {b k:Nat} {cs:List Value} (O:Del m (Fw.pto b (.cells cs.toArray e (0,0))) m') (hR:RepCs El I cs ys) (hk:k=ys.length) (U:∀ h,I.le h→RepSl El h (some ⟨b,0,none⟩) k ys→Ops P ops l n E (Sym w0 M I0 h m') Q) :
  Ops P ops l n E (Sym w0 M I0 I m) Q:=by
 intro c w Z V
 obtain ⟨h,q,D,Y,W,G⟩:=(V.del O).publish
 refine U h D ⟨by omega,fun i x hx=>?_⟩ c w Z G
 obtain ⟨J,g1,g2⟩:=hR.2.1 i x hx
 exact ⟨b,0,J,rfl,⟨_,_,_,W _ _ Y,fun j v hj=>by rw [Nat.zero_add]; simpa using g2 j v hj⟩,El.mono D g1⟩
theorem Ops.ownB {b k:Nat} {cs:List Value} (G:Del m (Fw.pto b (.cells cs.toArray e (0,0))) m') (D:RepCs El I cs ys) (hk:k=ys.length) (J:Ops P ops l n E (Sym w0 M I0 I (OwnSl El e (some ⟨b,0,none⟩) k ys :: m')) Q) :
  Ops P ops l n E (Sym w0 M I0 I m) Q:=
 Ops.pre (fun _ O=>(O.del G).weaken (B:=OwnSl El e (some ⟨b,0,none⟩) k ys) fun q U=>.inr ⟨b,_,rfl,U,by omega,by simp [D.1,hk],fun i x W=>by
  obtain ⟨h,V,Y⟩:=D.2.1 i x W
  exact ⟨h,V,fun j v Z=>by simpa using Y j v Z⟩⟩) J
theorem Ops.sliceV {lo hi mx:Option Operand} {vl V U:Option Value} {L H k s:Nat} (hT:P.underlying T=some (.slice e)) (hs:∀ w,(sizeOf e).run P w=.ok s w) (hx:ev E x=some (.slice a k cap)) (hk:k=xs.length)
  (hc:xs.length≤cap) (hl:qB E lo=some vl) (hh:qB E hi=some V) (hm:qB E mx=some U) (D:vl=none∧L=0∨∃ q i,vl=some (.int q i)∧0≤i∧i.toNat=L)
  (Z:V=none∧H=k∧U=none∨∃ q i,V=some (.int q i)∧0≤i∧i.toNat=H) (hmx:U=none∨U=V)
  (h1:L≤H) (h2:H≤xs.length) {cm:Nat} (h:cm=match U with | none=>cap | some _=>H) (hb:Nat.blt d n.sz=true) (hf:fresh E d=true)
  (k':Ops P ops l n ((d,.slice (if cm=L then a else a.map (·.add (L*s))) ((xs.take H).drop L).length (cm - L)) :: E) S Q) :
  Ops P ops (⟨some d,.slice T x lo hi mx,ty,pos,af,none⟩ :: l) n E S Q:=by
 subst hk
 have Y:((xs.take H).drop L).length=H - L:=by simp; omega
 rw [Y] at k'
 refine Ops.val rfl rfl (fun c w ho _=>?_) hb hf k'
 have hbd:(Instr.sliceBounds true xs.length cap vl V U).run P w=.ok (L,H,cm) w:=by
  simp only [Instr.sliceBounds]
  rcases hmx with rfl | rfl
  · simp only at h; subst h
    rcases Z with ⟨rfl,rfl,_⟩ | ⟨q,i,rfl,h3,W⟩ <;> rcases D with ⟨rfl,rfl⟩ | ⟨q',G,rfl,J,O⟩
    · simp
    · have:G≤(xs.length:Int):=by omega
      simp [Instr.sliceBound,asIntOf,J,this,O]
    · have:i≤(cm:Int):=by omega
      simp [Instr.sliceBound,asIntOf,h3,this,W]
    · have g1:i≤(cm:Int):=by omega
      have g2:G≤(H:Int):=by omega
      simp [Instr.sliceBound,asIntOf,h3,g1,J,g2,W,O]
  · rcases Z with ⟨rfl,rfl,_⟩ | ⟨q,i,rfl,h3,W⟩
    · simp only at h; subst h
      rcases D with ⟨rfl,rfl⟩ | ⟨q',G,rfl,J,O⟩
      · simp
      · have:G≤(xs.length:Int):=by omega
        simp [Instr.sliceBound,asIntOf,J,this,O]
    · simp only at h; subst h
      have g0:i≤(cap:Int):=by omega
      rcases D with ⟨rfl,rfl⟩ | ⟨q',G,rfl,J,O⟩
      · have:i≤(cm:Int):=by omega
        simp [Instr.sliceBound,asIntOf,h3,g0,this,W]
      · have g1:i≤(cm:Int):=by omega
        have g2:G≤(cm:Int):=by omega
        simp [Instr.sliceBound,asIntOf,h3,g0,g1,J,g2,W,O]
 simp only [execOp,ho.eval hx,O1 ho hl,O1 ho hh,O1 ho hm,Instr.sliceAt,Sem.run_bind,run_underlying hT,Result.andThen_ok,Instr.slice,hbd,hs,Sem.run_pure]
theorem RepSl.sliceM (h:RepSl El I a cap xs) {L H cm:Nat} (W:L≤H) (V:H≤xs.length) (O:cm=cap∨cm=H) :
  RepSl El I (if cm=L then a else a.map (·.add (L*El.sz))) (cm - L) ((xs.take H).drop L):=by
 have hc:=h.1
 refine ⟨by simp; omega,fun i x G=>?_⟩
 have U:=(h.slice W V).2 i x G
 have D:(xs.take H).drop L≠[]:=fun e=>by rw [e] at G; simp at G
 have J:L<H:=by
  have:=List.length_pos_iff.2 D
  simp at this; omega
 rw [if_neg (by omega)]
 rwa [if_neg (by omega)] at U
theorem Ops.ixa0 {k s b:Nat} {q:IntKind} {i:Int} (G:P.underlying T=some (.slice e)) (O:∀ w,(sizeOf e).run P w=.ok s w) (J:ev E x=some (.slice (some ⟨b,0,none⟩) k cap))
 (U:ev E y=some (.int q i)) (V:0≤i) (hk:i<k) (h:Nat.blt d n.sz=true) (D:fresh E d=true) (W:Ops P ops l n ((d,.pointer (some ⟨b,i.toNat*s,none⟩)) :: E) S Q) :
 Ops P ops (⟨some d,.indexAddr T x y,ty,pos,af,none⟩ :: l) n E S Q:=Ops.ixa (off:=0) G O J rfl U V hk h D (by rw [Nat.zero_add]; exact W)
theorem Ops.ixArr {s b off o:Nat} {q:IntKind} {i:Nat} (G:P.underlying T=some (.array len e)) (O:∀ w,(sizeOf e).run P w=.ok s w) (Z:ev E x=some (.pointer (some ⟨b,off,none⟩)))
  (J:ev E y=some (.int q (i:Int))) (hk:i<len) (V:off+i*s=o) (D:Nat.blt d n.sz=true) (Y:fresh E d=true) (U:Ops P ops l n ((d,.pointer (some ⟨b,o,none⟩)) :: E) S Q) :
  Ops P ops (⟨some d,.indexAddr T x y,ty,pos,af,none⟩ :: l) n E S Q:=
 Ops.val rfl rfl (fun c w h _=>by
  have e1:(⟨b,off,none⟩:Addr).add (i*s)=⟨b,o,none⟩:=by rw [←V]; unfold Addr.add; split <;> simp_all
  have W:(0:Int)≤(i:Int):=by omega
  simp [execOp,Instr.indexAt,Instr.sureAddr,h.eval Z,h.eval J,asIntOf,run_underlying G,W,hk,O,e1]) D Y U
theorem Ops.index1 {s:Nat} {q:IntKind} {i:Nat} {cs:List Value} {v:Value} (J:P.underlying T=some (.array len e)) (V:∀ w,(sizeOf e).run P w=.ok s w) (G:∀ w,(isAgg e).run P w=.ok false w) (hx:ev E x=some (.agg cs.toArray))
  (U:ev E y=some (.int q (i:Int))) (hk:i<len) (O:cs[i*s]? = some v) (D:Nat.blt d n.sz=true) (Z:fresh E d=true) (W:Ops P ops l n ((d,v) :: E) S Q) :
  Ops P ops (⟨some d,.index T x y,ty,pos,af,none⟩ :: l) n E S Q:=
 Ops.val rfl rfl (fun c w h _=>by
  have Y:(0:Int)≤(i:Int):=by omega
  simp [execOp,Instr.index,h.eval hx,h.eval U,asIntOf,run_underlying J,Y,hk,V,part,G,O]) D Z W
theorem Ops.make {z:Value} {zv:α} {i:TypeInfo} {q q':IntKind} {c:Int} (B:Nat) (hT:P.underlying T=some (.slice e)) (hi:P.info? e=some i) (hsz:i.size=El.sz) (hB:i.bytes=B) (hz:i.zero=some z) (hr:El.rep I (cellsOf z) zv)
   (hx:ev E x=some (.int q c)) (hy:ev E y=some (.int q' c)) (h0:0≤c) (h1:c*B≤140737488355328) (hB0:Nat.blt 0 B=true) (hb:Nat.blt d n.sz=true) (hf:fresh E d=true)
   (k:∀ b,Ops P ops l n ((d,.slice (some ⟨b,0,none⟩) (List.replicate c.toNat zv).length c.toNat) :: E) (Sym w0 M I0 I (OwnSl El e (some ⟨b,0,none⟩) c.toNat (List.replicate c.toNat zv) :: m)) Q) :
   Ops P ops (⟨some d,.makeSlice T x y,ty,pos,af,none⟩ :: l) n E (Sym w0 M I0 I m) Q:=by
 have hB1:0<B:=by simpa [Nat.blt_eq] using hB0
 have hc:c≤140737488355328:=by
   have:c*1≤c*(B:Int):=Int.mul_le_mul_of_nonneg_left (by omega) h0
   omega
 have hw:IntKind.i64.wrap c=c:=by
   have e1:IntKind.i64.wrap c=(let m:=c % 18446744073709551616; if m≥9223372036854775808 then m - 18446744073709551616 else m):=by
    simp [IntKind.wrap,IntKind.bits,IntKind.signed]
   rw [e1]; simp only []; omega
 have W:z.cells.size=El.sz:=by rw [Q3]; simpa using El.len hr
 refine Ops.valx (fun v w'=>∃ b,v=.slice (some ⟨b,0,none⟩) (List.replicate c.toNat zv).length c.toNat∧Sym w0 M I0 I (OwnSl El e (some ⟨b,0,none⟩) c.toNat (List.replicate c.toNat zv) :: m) w') rfl rfl
   (fun cc w Y h=>⟨.slice (some ⟨w.heap.size,0,none⟩) (List.replicate c.toNat zv).length c.toNat,w.alloc (.cells ((Array.range (c.toNat*El.sz)).map ((if c.toNat*El.sz=0 then #[] else z.cells)[· % (if c.toNat*El.sz=0 then #[] else z.cells).size]!)) e),?_,_,rfl,?_⟩) hb hf
   (fun v cc w Y ⟨b,hv,h⟩=>by subst hv; exact k b cc w Y h)
 · have hso:∀ w,(sizeOf e).run P w=.ok El.sz w:=fun w=>by simp [sizeOf,typeInfo,hi,hsz]
   have U:∀ w,(typeInfo e).run P w=.ok i w:=fun w=>by simp [typeInfo,hi]
   have hzv:∀ w,(zeroValue e).run P w=.ok z w:=fun w=>by simp [zeroValue,U,hz]
   have h2:(B:Int)*c≤140737488355328:=by rw [Int.mul_comm]; exact h1
   have g2:¬((c<0∨281474976710656<(B:Int)*c)∨c<0):=by omega
   simp only [execOp,Instr.makeSlice,Y.eval hx,Y.eval hy,Sem.run_bind,run_underlying hT,Result.andThen_ok,asInt,asIntOf,Sem.run_pure,U,hB,hw]
   by_cases hcz:c.toNat*El.sz=0 <;> simp [newRow,g2,hso,hzv,hcz]
 · refine (h.alloc _).weaken fun q hq=>.inr ⟨_,_,rfl,hq,by simp,by simp,fun i' x' D=>?_⟩
   have G:=(List.getElem?_eq_some_iff.1 D).1
   have hxz:x'=zv:=by rw [List.getElem?_replicate] at D; split at D <;> simp_all
   subst hxz
   refine ⟨_,hr,fun j v hj=>?_⟩
   have O:j<El.sz:=by rw [←El.len hr]; exact (List.getElem?_eq_some_iff.1 hj).1
   rw [List.length_replicate] at G
   have hm2:(i'+1)*El.sz≤c.toNat*El.sz:=Nat.mul_le_mul_right _ G
   rw [Nat.add_mul,Nat.one_mul] at hm2
   have Z:¬c.toNat*El.sz=0:=by omega
   simp only [Z,if_false,Array.getElem?_map,Array.getElem?_range]
   rw [if_pos (by omega)]
   have J:(i'*El.sz+j) % El.sz=j:=by rw [Nat.add_comm,Nat.add_mul_mod_self_right]; exact Nat.mod_eq_of_lt O
   simp only [Option.map_some,W,J,Option.some.injEq]
   have V:j<z.cells.size:=by rw [W]; exact O
   have e4:z.cells=(cellsOf z).toArray:=Q3 z
   rw [getElem!_pos z.cells j V]
   have:z.cells[j]? = some v:=by rw [e4]; simpa using hj
   rw [Array.getElem?_eq_getElem V] at this
   exact Option.some.inj this
theorem Ops.sliceW {lo hi mx:Option Operand} {J D h:Option Value} {L H k s:Nat} {a':Option Addr} {Z:Nat} (hT:P.underlying T=some (.slice e)) (hs:∀ w,(sizeOf e).run P w=.ok s w) (hx:ev E x=some (.slice a k cap)) (hk:k=xs.length)
  (hc:xs.length≤cap) (hl:qB E lo=some J) (hh:qB E hi=some D) (hm:qB E mx=some h) (Y:J=none∧L=0∨∃ q i,J=some (.int q i)∧0≤i∧i.toNat=L)
  (W:D=none∧H=k∧h=none∨∃ q i,D=some (.int q i)∧0≤i∧i.toNat=H) (O:h=none∨h=D)
  (h1:L≤H) (h2:H≤xs.length) {cm:Nat} (U:cm=match h with | none=>cap | some _=>H) (V:(if cm=L then a else a.map (·.add (L*s)))=a') (G:cm - L=Z) (hb:Nat.blt d n.sz=true) (hf:fresh E d=true)
  (k':Ops P ops l n ((d,.slice a' ((xs.take H).drop L).length Z) :: E) S Q) :
  Ops P ops (⟨some d,.slice T x lo hi mx,ty,pos,af,none⟩ :: l) n E S Q:=
 Ops.sliceV hT hs hx hk hc hl hh hm Y W O h1 h2 U hb hf (by rw [V,G]; exact k')
theorem RepSl.sliceW (h:RepSl El I a cap xs) (L H cm:Nat) (O:L≤H) (J:H≤xs.length) (D:cm=cap∨cm=H) :
 ∃ a' G,(if cm=L then a else a.map (·.add (L*El.sz)))=a'∧cm - L=G∧RepSl El I a' G ((xs.take H).drop L):=⟨_,_,rfl,rfl,h.sliceM O J D⟩
theorem JK {z:Nat} {O:List ResultVar} {vs:List Value} {J:Func} (W:J.results=O.toArray) (h:ResR P E m O vs) (G:I0.le I) (hp:Pick m m') (U:φ I (tup vs) m') :
 ∀ c w,Ok ⟨z,[],none⟩ E c→Sym w0 M I0 I m w→K5 P J (RH w0 M I0 φ) .ret c w:=fun _ _ V D=>wX V h W D fun _ D=>⟨_,I,m',rfl,G,U,D.pick hp⟩
def uP (P:Program) (f:FuncId) (vs:List Value) (I:IH) (φ:IH→Value→List HA→Prop):Prop:=Fun P f vs.toArray I [] φ
theorem Ops.callO {g:FuncId} {args:List Operand} {vs:List Value} {G:Array TypeId} (V:∀ as w,(callFunc g as).run P w=.ok (.enter g as) w)
  (W:qC E args=some vs) (U:uP P g vs I φ) (O:Nat.blt d n.sz=true) (D:fresh E d=true)
  (k:∀ v h J,I.le h→φ h v J→Ops P ops l n ((d,v) :: E) (Sym w0 M I0 h (J++m)) Q) :
  Ops P ops (⟨some d,.call ⟨.value (.func g),args.toArray,G⟩,ty,pos,af,none⟩ :: l) n E (Sym w0 M I0 I m) Q:=
 Ops.callF (mf:=[]) (mr:=m) V W U O D k
theorem Q4 {z:Nat} {O:List ResultVar} {vs:List Value} {J:Func} (W:J.results=O.toArray) (h:ResR P E m O vs) (G:I0.le I) (hp:Pick m m') (U:φ I (tup vs) m') :
 ∀ c w,Ok ⟨z,[],none⟩ E c→Sym w0 M I0 I m w→K5 P J (RH w0 M I0 φ) .normal c w:=fun _ _ V D=>wX V h W D fun _ D=>⟨_,I,m',rfl,G,U,D.pick hp⟩
theorem Ops.reat {A B:HA} (G:At m A m' B) (h:A=B) (k:Ops P ops l n E (Sym w0 M I0 I m') Q):Ops P ops l n E (Sym w0 M I0 I m) Q:=
 Ops.pre (fun _ D=>D.reAt G fun _ D=>h▸D) k
inductive bD (E:DA) (s:Nat):List Value→List (Nat×Operand)→List Value→Prop
 | n {z:List Value}:bD E s z [] z
 | c {z z' cs vs:List Value} {i:Nat} {x:Operand} {r:List (Nat×Operand)} {v:Value} (hx:ev E x=some v) (hv:cellsOf v=vs) (hl:vs.length=s) (hp:PutC z (i*s) vs z') (k:bD E s z' r cs):bD E s z ((i,x) :: r) cs
theorem wZ {s:Nat} {ev':Operand→Value}:∀ {z:List Value} {r:List (Nat×Operand)} {cs:List Value},bD E s z r cs→(∀ x v,ev E x=some v→ev' x=v) →
  Instr.fill (fun i=>some (i*s,s)) z.toArray (r.map fun p=>(p.1,ev' p.2))=some cs.toArray:=by
 intro z r cs h
 induction h with
 | n=>intros; rfl
 | @c z U cs vs i x r v W G hl hp k J=>
  intro he
  obtain ⟨D,Y⟩:=hp.eq
  have O:(ev' x).cells=vs.toArray:=by rw [he x v W,Q3,G]
  simp only [List.map_cons,Instr.fill,O]
  rw [if_neg (by simp; omega)]
  have V:vs.toArray.zipIdx.foldl (fun cs (p:Value×Nat)=>cs.setIfInBounds (i*s+p.2) p.1) z.toArray=U.toArray:=by
   rw [←Array.foldl_toList,Array.toList_zipIdx]
   rw [YV vs (i*s) 0 z.toArray (by simp; omega)]
   simp [D]
  rw [V]
  exact J he
theorem Ops.buildArr {s:Nat} {z:List Value} {cs:List Value} (Y:∀ w,(zeroValue T).run P w=.ok (.agg z.toArray) w) (J:P.underlying T=some (.array len e))
  (O:∀ w,(sizeOf e).run P w=.ok s w) (G:bD E s z parts cs) (D:Nat.blt d n.sz=true) (V:fresh E d=true) (k:Ops P ops l n ((d,.agg cs.toArray) :: E) S Q) :
  Ops P ops (⟨some d,.build T parts.toArray,ty,pos,af,none⟩ :: l) n E S Q:=
 Ops.val rfl rfl (fun a w U _=>by
  have h:=wZ (ev':=a.eval) G (fun x v W=>U.eval W)
  simp only [execOp,Instr.build,Sem.run_bind,Y,Result.andThen_ok,run_underlying J,Value.cells,O]
  have e:(Array.map (fun (x:Nat×Operand)=>(x.1,a.eval x.2)) parts.toArray).toList=parts.map fun p=>(p.1,a.eval p.2):=by simp
  rw [show (Array.map (fun x=>match x with | (i,x)=>(i,a.eval x)) parts.toArray).toList=parts.map fun p=>(p.1,a.eval p.2) from e,h]
  simp) D V k
end Go.Fw
