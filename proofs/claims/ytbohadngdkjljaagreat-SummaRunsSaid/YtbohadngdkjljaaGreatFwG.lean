/- The engine. -/
import Derived.Test.YtbohadngdkjljaaGreatFwF
namespace Go.Fw
open Go Go.RowKit
variable {w0 w:World} {M:Nat→Prop} {I0 I:IH} {m m':List HA}
variable {P:Program} {n:FrK} {E:D7} {S:World→Prop} {Q:Exit→Act→World→Prop} {ops:Array Oper} {l:List Oper}
variable {d ty:Nat} {pos:String} {af:Array Edge} {T e:TypeId} {x y:Operand}
variable {α:Type} {El:ET α} {xs ys:List α} {a:Option Addr} {cap:Nat}
/-! ### Pure parts -/
variable {parts:List (Nat×Operand)} {len:Nat} {φ:IH→Value→List HA→Prop}
def uM (xs:List α) (lo hi:Int) (K:List α→Prop):Prop:=0≤lo∧lo≤hi∧hi≤(xs.length:Int)∧K ((xs.take hi.toNat).drop lo.toNat)
def nzP (b:Int) (K:Prop):Prop:=b≠0∧K
def mkP (B:Nat) (c:Int) (z:α) (K:List α→Prop):Prop:=0≤c∧c*B≤140737488355328∧K (List.replicate c.toNat z)
def DR {σ:Type} (m:(σ→Prop)→Prop) (k:σ→Prop):Prop:=m k
theorem BD {i:Int} {v:α} (h:xs[i.toNat]? = some v) (h0:0≤i):i<(xs.length:Int):=by
 have:=(List.getElem?_eq_some_iff.1 h).1; omega
theorem CE {i:Nat} {v:α} (h:xs[i]? = some v):xs≠[]:=fun e=>by subst e; simp at h
theorem split {G:Prop} (b:Bool) (h1:b=true→G) (h0:b=false→G):G:=by cases b <;> simp_all
theorem Cod.joinQ {σ:Type} {c:Code} {G:(σ→Prop)→Prop} {k:σ→Prop} (O:DR G k) (D:σ→Act→World→Prop) (V:∀ k,G k→Cod P c n E S (Exit.then (fun a w=>∃ s,k s∧D s a w) Q))
  (U:∀ s,k s→∀ a w,D s a w→Q .normal a w):Cod P c n E S Q:=
 fun a w J W=>Code.wpIn_mono (fun e a w q=>by cases e <;> first | exact q | exact (let ⟨s,hk,h⟩:=q; U s hk a w h)) (V k O a w J W)
inductive Pick:List HA→List HA→Prop
 | n {l:List HA}:Pick l []
 | c {l m r:List HA} {A:HA} (h:Del l A m) (k:Pick m r):Pick l (A :: r)
theorem uN {l r:List HA} (hp:Pick l r):∀ {h:IH},OV l I h→OV r I h:=by
 induction hp with
 | n=>intros; trivial
 | c W _ Z=>
  intro h V
  obtain ⟨U,h2,D,G,O,Y,J⟩:=eP W V
  exact ⟨U,h2,D,G,O,Y,Z J⟩
theorem Sym.pick (h:Sym w0 M I0 I m w) (hp:Pick m m'):Sym w0 M I0 I m' w:=by
 obtain ⟨G,hi,O,k,U,hk,J,D⟩:=h
 exact ⟨G,hi,O,k,uN hp U,hk,J,D⟩
theorem Cod.ownF {c:Code} (O:Del m (OwnSl El T a cap xs) m') (k:(xs≠[]→∃ b,a=some ⟨b,0,none⟩)→Cod P c n E (Sym w0 M I0 I m) Q):Cod P c n E (Sym w0 M I0 I m) Q:=by
 intro c w G D
 refine k (fun h=>?_) c w G D
 obtain ⟨k1,J,_⟩:=(D.del O).get
 rcases J with ⟨_,V,_⟩ | ⟨b,_,U,_⟩
 · exact absurd V h
 · exact ⟨b,U⟩
theorem Ops.ownNe (O:Del m (OwnSl El T a cap xs) m') (h:xs≠[]) (k:∀ b,a=some ⟨b,0,none⟩→Ops P ops l n E (Sym w0 M I0 I m) Q):Ops P ops l n E (Sym w0 M I0 I m) Q:=by
 intro c w G D
 obtain ⟨k1,J,_⟩:=(D.del O).get
 rcases J with ⟨_,V,_⟩ | ⟨b,_,U,_⟩
 · exact absurd V h
 · exact k b U c w G D
inductive bM (E:D7) (s:Nat):Nat→List (Nat×Operand)→List Value→Prop
 | n {i:Nat}:bM E s i [] []
 | c {i:Nat} {x:Operand} {v:Value} {vs cs:List Value} {r:List (Nat×Operand)} (hx:ev E x=some v) (hv:cellsOf v=vs) (hl:vs.length=s) (k:bM E s (i+1) r cs):bM E s i ((i,x) :: r) (vs++cs)
theorem qR {s:Nat} {ev':Operand→Value} (he:∀ x v,ev E x=some v→ev' x=v) {i:Nat} {cs:List Value} (h:bM E s i parts cs) :
  ∀ z:Array Value,z.size=i*s+parts.length*s→Instr.fill (fun i=>some (i*s,s)) z (parts.map fun p=>(p.1,ev' p.2))=some (z.toList.take (i*s)++cs).toArray:=by
 induction h with
 | n=>intro z D; simp at D; simp only [List.map_nil,Instr.fill,List.append_nil]; rw [List.take_of_length_le (by simp; omega)]
 | @c i x v vs cs r Y W U k V=>
  intro z D
  simp only [List.length_cons,Nat.add_mul,Nat.one_mul] at D
  have J:(ev' x).cells=vs.toArray:=by rw [he x v Y,Q4,W]
  simp only [List.map_cons,Instr.fill,J]
  rw [if_neg (by simp; omega)]
  have O:vs.toArray.zipIdx.foldl (fun cs (p:Value×Nat)=>cs.setIfInBounds (i*s+p.2) p.1) z=(z.toList.take (i*s)++vs++z.toList.drop (i*s+vs.length)).toArray:=by
   rw [←Array.foldl_toList,Array.toList_zipIdx,Z5 vs (i*s) 0 z (by omega)]
   simp
  rw [O,V _ (by simp [Nat.add_mul]; omega)]
  congr 2
  have G:(i+1)*s=(z.toList.take (i*s)++vs).length:=by simp [Nat.add_mul,U]; omega
  rw [G,List.take_left' rfl]
  simp
theorem Ops.buildSlice {s:Nat} {z:Value} {cs:List Value} (k:Nat) (Z:P.underlying T=some (.slice e)) (hs:∀ w,(sizeOf e).run P w=.ok s w) (hz:∀ w,(zeroValue e).run P w=.ok z w)
  (hk:k=parts.length) (G:Nat.ble (k*s) 16777216=true) (hp:bM E s 0 parts cs) (U:Nat.blt d n.sz=true) (hf:fresh E d=true)
  (k':∀ b,Ops P ops l n ((d,.slice (some ⟨b,0,none⟩) k k) :: E) (Sym w0 M I0 I (pto b (.cells cs.toArray e) :: m)) Q) :
  Ops P ops (⟨some d,.buildSlice T k parts.toArray,ty,pos,af,none⟩ :: l) n E (Sym w0 M I0 I m) Q:=
 Ops.valx (fun v w'=>∃ b,v=.slice (some ⟨b,0,none⟩) k k∧Sym w0 M I0 I (pto b (.cells cs.toArray e) :: m) w') rfl rfl
  (fun c w J D=>⟨.slice (some ⟨w.heap.size,0,none⟩) k k,w.alloc (.cells cs.toArray e),by
   have Y:¬k*s > 16777216:=by have:=Nat.le_of_ble_eq_true G; omega
   have h:=fun O:Array Value=>qR (ev':=c.eval) (fun x v hx=>J.eval hx) hp ((Array.range (k*s)).map (O[· % O.size]!)) (by simp [hk])
   have V:(Array.map (fun (x:Nat×Operand)=>(x.1,c.eval x.2)) parts.toArray).toList=parts.map fun p=>(p.1,c.eval p.2):=by simp
   have W:(Array.map (fun x=>match x with | (i,x)=>(i,c.eval x)) parts.toArray).toList=parts.map fun p=>(p.1,c.eval p.2):=V
   simp only [execOp,Instr.buildSlice,Sem.run_bind,run_underlying Z,Result.andThen_ok,hs,Y,if_false,W]
   simp only [h]
   by_cases hks:k*s=0 <;> simp [hks,newRow,hz],_,rfl,D.alloc _⟩) U hf
  (fun v c w J ⟨b,hv,D⟩=>by subst hv; exact k' b c w J D)
theorem Ops.pubB {b k:Nat} {cs:List Value} (hA:Del m (Fw.pto b (.cells cs.toArray e (0,0))) m') (O:RepCs El I cs ys) (hk:k=ys.length) (k':∀ h,I.le h→RepSl El h (some ⟨b,0,none⟩) k ys→Ops P ops l n E (Sym w0 M I0 h m') Q) :
  Ops P ops l n E (Sym w0 M I0 I m) Q:=by
 intro c w ho Z
 obtain ⟨h,q,D,ha,Y,J⟩:=(Z.del hA).publish
 refine k' h D ⟨by omega,fun i x hx=>?_⟩ c w ho J
 obtain ⟨G,V,W⟩:=O.2.1 i x hx
 exact ⟨b,0,G,rfl,⟨_,_,_,Y _ _ ha,fun j v U=>by rw [Nat.zero_add]; simpa using W j v U⟩,El.mono D V⟩
theorem Ops.ownB {b k:Nat} {cs:List Value} (Y:Del m (Fw.pto b (.cells cs.toArray e (0,0))) m') (D:RepCs El I cs ys) (hk:k=ys.length) (W:Ops P ops l n E (Sym w0 M I0 I (OwnSl El e (some ⟨b,0,none⟩) k ys :: m')) Q) :
  Ops P ops l n E (Sym w0 M I0 I m) Q:=
 Ops.pre (fun _ V=>(V.del Y).weaken (B:=OwnSl El e (some ⟨b,0,none⟩) k ys) fun q U=>.inr ⟨b,_,rfl,U,by omega,by simp [D.1,hk],fun i x Z=>by
  obtain ⟨h,J,O⟩:=D.2.1 i x Z
  exact ⟨h,J,fun j v G=>by simpa using O j v G⟩⟩) W
theorem Ops.sliceV {lo hi mx:Option Operand} {vl W U:Option Value} {L H k s:Nat} (hT:P.underlying T=some (.slice e)) (hs:∀ w,(sizeOf e).run P w=.ok s w) (hx:ev E x=some (.slice a k cap)) (hk:k=xs.length)
  (hc:xs.length≤cap) (hl:qD E lo=some vl) (hh:qD E hi=some W) (hm:qD E mx=some U) (D:vl=none∧L=0∨∃ q i,vl=some (.int q i)∧0≤i∧i.toNat=L)
  (V:W=none∧H=k∧U=none∨∃ q i,W=some (.int q i)∧0≤i∧i.toNat=H) (hmx:U=none∨U=W)
  (h1:L≤H) (h2:H≤xs.length) {cm:Nat} (h:cm=match U with | none=>cap | some _=>H) (hb:Nat.blt d n.sz=true) (hf:fresh E d=true)
  (k':Ops P ops l n ((d,.slice (if cm=L then a else a.map (·.add (L*s))) ((xs.take H).drop L).length (cm - L)) :: E) S Q) :
  Ops P ops (⟨some d,.slice T x lo hi mx,ty,pos,af,none⟩ :: l) n E S Q:=by
 subst hk
 have hlen:((xs.take H).drop L).length=H - L:=by simp; omega
 rw [hlen] at k'
 refine Ops.val rfl rfl (fun c w ho _=>?_) hb hf k'
 have hbd:(Instr.sliceBounds true xs.length cap vl W U).run P w=.ok (L,H,cm) w:=by
  simp only [Instr.sliceBounds]
  rcases hmx with rfl | rfl
  · simp only at h; subst h
    rcases V with ⟨rfl,rfl,_⟩ | ⟨q,i,rfl,Y,Z⟩ <;> rcases D with ⟨rfl,rfl⟩ | ⟨q',O,rfl,G,J⟩
    · simp
    · have:O≤(xs.length:Int):=by omega
      simp [Instr.sliceBound,asIntOf,G,this,J]
    · have:i≤(cm:Int):=by omega
      simp [Instr.sliceBound,asIntOf,Y,this,Z]
    · have g1:i≤(cm:Int):=by omega
      have g2:O≤(H:Int):=by omega
      simp [Instr.sliceBound,asIntOf,Y,g1,G,g2,Z,J]
  · rcases V with ⟨rfl,rfl,_⟩ | ⟨q,i,rfl,Y,Z⟩
    · simp only at h; subst h
      rcases D with ⟨rfl,rfl⟩ | ⟨q',O,rfl,G,J⟩
      · simp
      · have:O≤(xs.length:Int):=by omega
        simp [Instr.sliceBound,asIntOf,G,this,J]
    · simp only at h; subst h
      have g0:i≤(cap:Int):=by omega
      rcases D with ⟨rfl,rfl⟩ | ⟨q',O,rfl,G,J⟩
      · have:i≤(cm:Int):=by omega
        simp [Instr.sliceBound,asIntOf,Y,g0,this,Z]
      · have g1:i≤(cm:Int):=by omega
        have g2:O≤(cm:Int):=by omega
        simp [Instr.sliceBound,asIntOf,Y,g0,g1,G,g2,Z,J]
 simp only [execOp,ho.eval hx,NV ho hl,NV ho hh,NV ho hm,Instr.sliceAt,Sem.run_bind,run_underlying hT,Result.andThen_ok,Instr.slice,hbd,hs,Sem.run_pure]
theorem RepSl.sliceM (h:RepSl El I a cap xs) {L H cm:Nat} (V:L≤H) (W:H≤xs.length) (J:cm=cap∨cm=H) :
  RepSl El I (if cm=L then a else a.map (·.add (L*El.sz))) (cm - L) ((xs.take H).drop L):=by
 have hc:=h.1
 refine ⟨by simp; omega,fun i x G=>?_⟩
 have U:=(h.slice V W).2 i x G
 have D:(xs.take H).drop L≠[]:=fun e=>by rw [e] at G; simp at G
 have O:L<H:=by
  have:=List.length_pos_iff.2 D
  simp at this; omega
 rw [if_neg (by omega)]
 rwa [if_neg (by omega)] at U
theorem Ops.ixa0 {k s b:Nat} {q:IntKind} {i:Int} (V:P.underlying T=some (.slice e)) (W:∀ w,(sizeOf e).run P w=.ok s w) (U:ev E x=some (.slice (some ⟨b,0,none⟩) k cap))
 (D:ev E y=some (.int q i)) (J:0≤i) (hk:i<k) (G:Nat.blt d n.sz=true) (O:fresh E d=true) (h:Ops P ops l n ((d,.pointer (some ⟨b,i.toNat*s,none⟩)) :: E) S Q) :
 Ops P ops (⟨some d,.indexAddr T x y,ty,pos,af,none⟩ :: l) n E S Q:=Ops.ixa (off:=0) V W U rfl D J hk G O (by rw [Nat.zero_add]; exact h)
theorem Ops.ixArr {s b off o:Nat} {q:IntKind} {i:Nat} (O:P.underlying T=some (.array len e)) (U:∀ w,(sizeOf e).run P w=.ok s w) (Z:ev E x=some (.pointer (some ⟨b,off,none⟩)))
  (D:ev E y=some (.int q (i:Int))) (hk:i<len) (W:off+i*s=o) (G:Nat.blt d n.sz=true) (Y:fresh E d=true) (V:Ops P ops l n ((d,.pointer (some ⟨b,o,none⟩)) :: E) S Q) :
  Ops P ops (⟨some d,.indexAddr T x y,ty,pos,af,none⟩ :: l) n E S Q:=
 Ops.val rfl rfl (fun c w h _=>by
  have J:(⟨b,off,none⟩:Addr).add (i*s)=⟨b,o,none⟩:=by rw [←W]; unfold Addr.add; split <;> simp_all
  have h2:(0:Int)≤(i:Int):=by omega
  simp [execOp,Instr.indexAt,Instr.sureAddr,h.eval Z,h.eval D,asIntOf,run_underlying O,h2,hk,U,J]) G Y V
theorem Ops.index1 {s:Nat} {q:IntKind} {i:Nat} {cs:List Value} {v:Value} (J:P.underlying T=some (.array len e)) (O:∀ w,(sizeOf e).run P w=.ok s w) (Y:∀ w,(isAgg e).run P w=.ok false w) (Z:ev E x=some (.agg cs.toArray))
  (D:ev E y=some (.int q (i:Int))) (hk:i<len) (V:cs[i*s]? = some v) (G:Nat.blt d n.sz=true) (W:fresh E d=true) (U:Ops P ops l n ((d,v) :: E) S Q) :
  Ops P ops (⟨some d,.index T x y,ty,pos,af,none⟩ :: l) n E S Q:=
 Ops.val rfl rfl (fun c w h _=>by
  have h2:(0:Int)≤(i:Int):=by omega
  simp [execOp,Instr.index,h.eval Z,h.eval D,asIntOf,run_underlying J,h2,hk,O,part,Y,V]) G W U
theorem Ops.make {z:Value} {zv:α} {i:TypeInfo} {q q':IntKind} {c:Int} (B:Nat) (hT:P.underlying T=some (.slice e)) (hi:P.info? e=some i) (hsz:i.size=El.sz) (hB:i.bytes=B) (hz:i.zero=some z) (hr:El.rep I (cellsOf z) zv)
   (hx:ev E x=some (.int q c)) (hy:ev E y=some (.int q' c)) (h0:0≤c) (h1:c*B≤140737488355328) (hB0:Nat.blt 0 B=true) (hb:Nat.blt d n.sz=true) (hf:fresh E d=true)
   (k:∀ b,Ops P ops l n ((d,.slice (some ⟨b,0,none⟩) (List.replicate c.toNat zv).length c.toNat) :: E) (Sym w0 M I0 I (OwnSl El e (some ⟨b,0,none⟩) c.toNat (List.replicate c.toNat zv) :: m)) Q) :
   Ops P ops (⟨some d,.makeSlice T x y,ty,pos,af,none⟩ :: l) n E (Sym w0 M I0 I m) Q:=by
 have hB1:0<B:=by simpa [Nat.blt_eq] using hB0
 have hc:c≤140737488355328:=by
   have:c*1≤c*(B:Int):=Int.mul_le_mul_of_nonneg_left (by omega) h0
   omega
 have hw:IntKind.i64.wrap c=c:=by
   have e1:IntKind.i64.wrap c=(let m:=c % 18446744073709551616; if m≥9223372036854775808 then m - 18446744073709551616 else m):=by
    simp [IntKind.wrap,IntKind.bits,IntKind.signed]
   rw [e1]; simp only []; omega
 have U:z.cells.size=El.sz:=by rw [Q4]; simpa using El.len hr
 refine Ops.valx (fun v w'=>∃ b,v=.slice (some ⟨b,0,none⟩) (List.replicate c.toNat zv).length c.toNat∧Sym w0 M I0 I (OwnSl El e (some ⟨b,0,none⟩) c.toNat (List.replicate c.toNat zv) :: m) w') rfl rfl
   (fun cc w Y h=>⟨.slice (some ⟨w.heap.size,0,none⟩) (List.replicate c.toNat zv).length c.toNat,w.alloc (.cells ((Array.range (c.toNat*El.sz)).map ((if c.toNat*El.sz=0 then #[] else z.cells)[· % (if c.toNat*El.sz=0 then #[] else z.cells).size]!)) e),?_,_,rfl,?_⟩) hb hf
   (fun v cc w Y ⟨b,hv,h⟩=>by subst hv; exact k b cc w Y h)
 · have hso:∀ w,(sizeOf e).run P w=.ok El.sz w:=fun w=>by simp [sizeOf,typeInfo,hi,hsz]
   have W:∀ w,(typeInfo e).run P w=.ok i w:=fun w=>by simp [typeInfo,hi]
   have hzv:∀ w,(zeroValue e).run P w=.ok z w:=fun w=>by simp [zeroValue,W,hz]
   have h2:(B:Int)*c≤140737488355328:=by rw [Int.mul_comm]; exact h1
   have g2:¬((c<0∨281474976710656<(B:Int)*c)∨c<0):=by omega
   simp only [execOp,Instr.makeSlice,Y.eval hx,Y.eval hy,Sem.run_bind,run_underlying hT,Result.andThen_ok,asInt,asIntOf,Sem.run_pure,W,hB,hw]
   by_cases hcz:c.toNat*El.sz=0 <;> simp [newRow,g2,hso,hzv,hcz]
 · refine (h.alloc _).weaken fun q hq=>.inr ⟨_,_,rfl,hq,by simp,by simp,fun i' x' D=>?_⟩
   have O:=(List.getElem?_eq_some_iff.1 D).1
   have Z:x'=zv:=by rw [List.getElem?_replicate] at D; split at D <;> simp_all
   subst Z
   refine ⟨_,hr,fun j v hj=>?_⟩
   have J:j<El.sz:=by rw [←El.len hr]; exact (List.getElem?_eq_some_iff.1 hj).1
   rw [List.length_replicate] at O
   have hm2:(i'+1)*El.sz≤c.toNat*El.sz:=Nat.mul_le_mul_right _ O
   rw [Nat.add_mul,Nat.one_mul] at hm2
   have hne:¬c.toNat*El.sz=0:=by omega
   simp only [hne,if_false,Array.getElem?_map,Array.getElem?_range]
   rw [if_pos (by omega)]
   have V:(i'*El.sz+j) % El.sz=j:=by rw [Nat.add_comm,Nat.add_mul_mod_self_right]; exact Nat.mod_eq_of_lt J
   simp only [Option.map_some,U,V,Option.some.injEq]
   have G:j<z.cells.size:=by rw [U]; exact J
   have e4:z.cells=(cellsOf z).toArray:=Q4 z
   rw [getElem!_pos z.cells j G]
   have:z.cells[j]? = some v:=by rw [e4]; simpa using hj
   rw [Array.getElem?_eq_getElem G] at this
   exact Option.some.inj this
theorem Ops.sliceW {lo hi mx:Option Operand} {J D h:Option Value} {L H k s:Nat} {a':Option Addr} {Z:Nat} (hT:P.underlying T=some (.slice e)) (hs:∀ w,(sizeOf e).run P w=.ok s w) (hx:ev E x=some (.slice a k cap)) (hk:k=xs.length)
  (hc:xs.length≤cap) (hl:qD E lo=some J) (hh:qD E hi=some D) (hm:qD E mx=some h) (U:J=none∧L=0∨∃ q i,J=some (.int q i)∧0≤i∧i.toNat=L)
  (O:D=none∧H=k∧h=none∨∃ q i,D=some (.int q i)∧0≤i∧i.toNat=H) (W:h=none∨h=D)
  (h1:L≤H) (h2:H≤xs.length) {cm:Nat} (G:cm=match h with | none=>cap | some _=>H) (Y:(if cm=L then a else a.map (·.add (L*s)))=a') (V:cm - L=Z) (hb:Nat.blt d n.sz=true) (hf:fresh E d=true)
  (k':Ops P ops l n ((d,.slice a' ((xs.take H).drop L).length Z) :: E) S Q) :
  Ops P ops (⟨some d,.slice T x lo hi mx,ty,pos,af,none⟩ :: l) n E S Q:=
 Ops.sliceV hT hs hx hk hc hl hh hm U O W h1 h2 G hb hf (by rw [Y,V]; exact k')
theorem RepSl.sliceW (h:RepSl El I a cap xs) (L H cm:Nat) (O:L≤H) (J:H≤xs.length) (D:cm=cap∨cm=H) :
 ∃ a' G,(if cm=L then a else a.map (·.add (L*El.sz)))=a'∧cm - L=G∧RepSl El I a' G ((xs.take H).drop L):=⟨_,_,rfl,rfl,h.sliceM O J D⟩
theorem JG {z:Nat} {O:List ResultVar} {vs:List Value} {J:Func} (W:J.results=O.toArray) (h:ResR P E m O vs) (D:I0.le I) (hp:Pick m m') (V:φ I (tup vs) m') :
 ∀ c w,Ok ⟨z,[],none⟩ E c→Sym w0 M I0 I m w→K4 P J (RQ w0 M I0 φ) .ret c w:=fun _ _ U G=>wU U h W G fun _ G=>⟨_,I,m',rfl,D,V,G.pick hp⟩
def uO (P:Program) (f:FuncId) (vs:List Value) (I:IH) (φ:IH→Value→List HA→Prop):Prop:=Fun P f vs.toArray I [] φ
theorem Ops.callO {g:FuncId} {args:List Operand} {vs:List Value} {D:Array TypeId} (W:∀ as w,(callFunc g as).run P w=.ok (.enter g as) w)
  (U:qE E args=some vs) (V:uO P g vs I φ) (O:Nat.blt d n.sz=true) (G:fresh E d=true)
  (k:∀ v h J,I.le h→φ h v J→Ops P ops l n ((d,v) :: E) (Sym w0 M I0 h (J++m)) Q) :
  Ops P ops (⟨some d,.call ⟨.value (.func g),args.toArray,D⟩,ty,pos,af,none⟩ :: l) n E (Sym w0 M I0 I m) Q:=
 Ops.callF (mf:=[]) (mr:=m) W U V O G k
theorem Q5 {z:Nat} {O:List ResultVar} {vs:List Value} {J:Func} (W:J.results=O.toArray) (h:ResR P E m O vs) (D:I0.le I) (hp:Pick m m') (V:φ I (tup vs) m') :
 ∀ c w,Ok ⟨z,[],none⟩ E c→Sym w0 M I0 I m w→K4 P J (RQ w0 M I0 φ) .normal c w:=fun _ _ U G=>wU U h W G fun _ G=>⟨_,I,m',rfl,D,V,G.pick hp⟩
theorem Ops.reat {A B:HA} (G:At m A m' B) (h:A=B) (k:Ops P ops l n E (Sym w0 M I0 I m') Q):Ops P ops l n E (Sym w0 M I0 I m) Q:=
 Ops.pre (fun _ D=>D.reAt G fun _ D=>h▸D) k
inductive bN (E:D7) (s:Nat):List Value→List (Nat×Operand)→List Value→Prop
 | n {z:List Value}:bN E s z [] z
 | c {z z' cs vs:List Value} {i:Nat} {x:Operand} {r:List (Nat×Operand)} {v:Value} (hx:ev E x=some v) (hv:cellsOf v=vs) (hl:vs.length=s) (hp:PutC z (i*s) vs z') (k:bN E s z' r cs):bN E s z ((i,x) :: r) cs
theorem wW {s:Nat} {ev':Operand→Value}:∀ {z:List Value} {r:List (Nat×Operand)} {cs:List Value},bN E s z r cs→(∀ x v,ev E x=some v→ev' x=v) →
  Instr.fill (fun i=>some (i*s,s)) z.toArray (r.map fun p=>(p.1,ev' p.2))=some cs.toArray:=by
 intro z r cs h
 induction h with
 | n=>intros; rfl
 | @c z W cs vs i x r v Y U hl hp k O=>
  intro he
  obtain ⟨D,V⟩:=hp.eq
  have G:(ev' x).cells=vs.toArray:=by rw [he x v Y,Q4,U]
  simp only [List.map_cons,Instr.fill,G]
  rw [if_neg (by simp; omega)]
  have J:vs.toArray.zipIdx.foldl (fun cs (p:Value×Nat)=>cs.setIfInBounds (i*s+p.2) p.1) z.toArray=W.toArray:=by
   rw [←Array.foldl_toList,Array.toList_zipIdx]
   rw [Z5 vs (i*s) 0 z.toArray (by simp; omega)]
   simp [D]
  rw [J]
  exact O he
theorem Ops.buildArr {s:Nat} {z:List Value} {cs:List Value} (Y:∀ w,(zeroValue T).run P w=.ok (.agg z.toArray) w) (J:P.underlying T=some (.array len e))
  (O:∀ w,(sizeOf e).run P w=.ok s w) (G:bN E s z parts cs) (D:Nat.blt d n.sz=true) (V:fresh E d=true) (k:Ops P ops l n ((d,.agg cs.toArray) :: E) S Q) :
  Ops P ops (⟨some d,.build T parts.toArray,ty,pos,af,none⟩ :: l) n E S Q:=
 Ops.val rfl rfl (fun a w U _=>by
  have h:=wW (ev':=a.eval) G (fun x v W=>U.eval W)
  simp only [execOp,Instr.build,Sem.run_bind,Y,Result.andThen_ok,run_underlying J,Value.cells,O]
  have e:(Array.map (fun (x:Nat×Operand)=>(x.1,a.eval x.2)) parts.toArray).toList=parts.map fun p=>(p.1,a.eval p.2):=by simp
  rw [show (Array.map (fun x=>match x with | (i,x)=>(i,a.eval x)) parts.toArray).toList=parts.map fun p=>(p.1,a.eval p.2) from e,h]
  simp) D V k
end Go.Fw
