/- The engine, part G: literal slices, make, joins, what is picked of memory, parts of pure functions. -/
import Derived.Test.YtbohadngdkjljaaGreatFwF
namespace Go.Fw
open Go Go.RowKit
variable {w0 w:World} {M:Nat→Prop} {I0 I:IH} {m m':List HA}
variable {P:Program} {n:FrK} {E:DY} {S:World→Prop} {Q:Exit→Act→World→Prop} {ops:Array Oper} {l:List Oper}
variable {d ty:Nat} {pos:String} {af:Array Edge} {T e:TypeId} {x y:Operand}
variable {α:Type} {El:FH α} {xs ys:List α} {a:Option Addr} {cap:Nat}
/-! ### Pure parts -/
def slP (xs:List α) (lo hi:Int) (K:List α→Prop):Prop:=0≤lo∧lo≤hi∧hi≤(xs.length:Int)∧K ((xs.take hi.toNat).drop lo.toNat)
def nzP (b:Int) (K:Prop):Prop:=b≠0∧K
def nnP (b:Int) (K:Prop):Prop:=0≤b∧K
def mkP (B:Nat) (c:Int) (z:α) (K:List α→Prop):Prop:=0≤c∧c*B≤140737488355328∧K (List.replicate c.toNat z)
def FM {σ:Type} (m:(σ→Prop)→Prop) (k:σ→Prop):Prop:=m k
theorem AH {i:Int} {v:α} (h:xs[i.toNat]? = some v) (h0:0≤i):i<(xs.length:Int):=by
  have:=(List.getElem?_eq_some_iff.1 h).1; omega
theorem DO {i:Nat} {v:α} (h:xs[i]? = some v):xs≠[]:=fun e=>by subst e; simp at h
theorem split {G:Prop} (b:Bool) (h1:b=true→G) (h0:b=false→G):G:=by cases b <;> simp_all
theorem Cod.joinQ {σ:Type} {c:Code} {G:(σ→Prop)→Prop} {k:σ→Prop} (O:FM G k) (D:σ→Act→World→Prop) (V:∀ k,G k→Cod P c n E S (Exit.then (fun a w=>∃ s,k s∧D s a w) Q))
    (U:∀ s,k s→∀ a w,D s a w→Q .normal a w):Cod P c n E S Q:=
  fun a w J W=>Code.wpIn_mono (fun e a w q=>by cases e <;> first | exact q | exact (let ⟨s,hk,h⟩:=q; U s hk a w h)) (V k O a w J W)
inductive Pick:List HA→List HA→Prop
  | n {l:List HA}:Pick l []
  | c {l m r:List HA} {A:HA} (h:Del l A m) (k:Pick m r):Pick l (A :: r)
theorem AbP {l r:List HA} (hp:Pick l r):∀ {h:IH},NF l I h→NF r I h:=by
  induction hp with
  | n=>intros; trivial
  | c U _ V=>
    intro h hs
    obtain ⟨W,Z,J,D,O,Y,G⟩:=cF U hs
    exact ⟨W,Z,J,D,O,Y,V G⟩
theorem Sym.pick (h:Sym w0 M I0 I m w) (hp:Pick m m'):Sym w0 M I0 I m' w:=by
  obtain ⟨J,hi,G,k,O,hk,D,U⟩:=h
  exact ⟨J,hi,G,k,AbP hp O,hk,D,U⟩
theorem Cod.ownF {c:Code} (G:Del m (OwnSl El T a cap xs) m') (k:(xs≠[]→∃ b,a=some ⟨b,0,none⟩)→Cod P c n E (Sym w0 M I0 I m) Q):Cod P c n E (Sym w0 M I0 I m) Q:=by
  intro c w O D
  refine k (fun h=>?_) c w O D
  obtain ⟨k1,U,_⟩:=(D.del G).get
  rcases U with ⟨_,V,_⟩ | ⟨b,_,J,_⟩
  · exact absurd V h
  · exact ⟨b,J⟩
theorem Ops.ownNe (G:Del m (OwnSl El T a cap xs) m') (h:xs≠[]) (k:∀ b,a=some ⟨b,0,none⟩→Ops P ops l n E (Sym w0 M I0 I m) Q):Ops P ops l n E (Sym w0 M I0 I m) Q:=by
  intro c w O D
  obtain ⟨k1,U,_⟩:=(D.del G).get
  rcases U with ⟨_,V,_⟩ | ⟨b,_,J,_⟩
  · exact absurd V h
  · exact k b J c w O D
inductive kB (E:DY) (s:Nat):Nat→List (Nat×Operand)→List Value→Prop
  | n {i:Nat}:kB E s i [] []
  | c {i:Nat} {x:Operand} {v:Value} {vs cs:List Value} {r:List (Nat×Operand)} (hx:ev E x=some v) (hv:cellsOf v=vs) (hl:vs.length=s) (k:kB E s (i+1) r cs):kB E s i ((i,x) :: r) (vs++cs)
theorem yC {s:Nat} {ev':Operand→Value} (he:∀ x v,ev E x=some v→ev' x=v) {i:Nat} {D:List (Nat×Operand)} {cs:List Value} (h:kB E s i D cs) :
    ∀ z:Array Value,z.size=i*s+D.length*s→Instr.fill (fun i=>some (i*s,s)) z (D.map fun p=>(p.1,ev' p.2))=some (z.toList.take (i*s)++cs).toArray:=by
  induction h with
  | n=>intro z G; simp at G; simp only [List.map_nil,Instr.fill,List.append_nil]; rw [List.take_of_length_le (by simp; omega)]
  | @c i x v vs cs r W V Y k O=>
    intro z G
    simp only [List.length_cons,Nat.add_mul,Nat.one_mul] at G
    have Z:(ev' x).cells=vs.toArray:=by rw [he x v W,TB,V]
    simp only [List.map_cons,Instr.fill,Z]
    rw [if_neg (by simp; omega)]
    have U:vs.toArray.zipIdx.foldl (fun cs (p:Value×Nat)=>cs.setIfInBounds (i*s+p.2) p.1) z=(z.toList.take (i*s)++vs++z.toList.drop (i*s+vs.length)).toArray:=by
      rw [←Array.foldl_toList,Array.toList_zipIdx,cH vs (i*s) 0 z (by omega)]
      simp
    rw [U,O _ (by simp [Nat.add_mul]; omega)]
    congr 2
    have J:(i+1)*s=(z.toList.take (i*s)++vs).length:=by simp [Nat.add_mul,Y]; omega
    rw [J,List.take_left' rfl]
    simp
theorem Ops.buildSlice {s:Nat} {z:Value} {h:List (Nat×Operand)} {cs:List Value} (k:Nat) (hT:P.underlying T=some (.slice e)) (hs:∀ w,(sizeOf e).run P w=.ok s w) (hz:∀ w,(zeroValue e).run P w=.ok z w)
    (hk:k=h.length) (J:Nat.ble (k*s) 16777216=true) (hp:kB E s 0 h cs) (V:Nat.blt d n.sz=true) (hf:fresh E d=true)
    (k':∀ b,Ops P ops l n ((d,.slice (some ⟨b,0,none⟩) k k) :: E) (Sym w0 M I0 I (pto b (.cells cs.toArray e) :: m)) Q) :
    Ops P ops (⟨some d,.buildSlice T k h.toArray,ty,pos,af,none⟩ :: l) n E (Sym w0 M I0 I m) Q:=
  Ops.valx (fun v w'=>∃ b,v=.slice (some ⟨b,0,none⟩) k k∧Sym w0 M I0 I (pto b (.cells cs.toArray e) :: m) w') rfl rfl
    (fun c w O G=>⟨.slice (some ⟨w.heap.size,0,none⟩) k k,w.alloc (.cells cs.toArray e),by
      have hl:¬k*s > 16777216:=by have:=Nat.le_of_ble_eq_true J; omega
      have D:=fun U:Array Value=>yC (ev':=c.eval) (fun x v Y=>O.eval Y) hp ((Array.range (k*s)).map (U[· % U.size]!)) (by simp [hk])
      have Z:(Array.map (fun (x:Nat×Operand)=>(x.1,c.eval x.2)) h.toArray).toList=h.map fun p=>(p.1,c.eval p.2):=by simp
      have W:(Array.map (fun x=>match x with | (i,x)=>(i,c.eval x)) h.toArray).toList=h.map fun p=>(p.1,c.eval p.2):=Z
      simp only [execOp,Instr.buildSlice,Sem.run_bind,run_underlying hT,Result.andThen_ok,hs,hl,if_false,W]
      simp only [D]
      by_cases hks:k*s=0 <;> simp [hks,newRow,hz],_,rfl,G.alloc _⟩) V hf
    (fun v c w O ⟨b,hv,G⟩=>by subst hv; exact k' b c w O G)
theorem Ops.pubB {b k:Nat} {cs:List Value} (Y:Del m (Fw.pto b (.cells cs.toArray e (0,0))) m') (V:RepCs El I cs ys) (hk:k=ys.length) (k':∀ h,I.le h→RepSl El h (some ⟨b,0,none⟩) k ys→Ops P ops l n E (Sym w0 M I0 h m') Q) :
    Ops P ops l n E (Sym w0 M I0 I m) Q:=by
  intro c w O hs
  obtain ⟨h,q,D,Z,W,J⟩:=(hs.del Y).publish
  refine k' h D ⟨by omega,fun i x hx=>?_⟩ c w O J
  obtain ⟨G,g1,U⟩:=V.2.1 i x hx
  exact ⟨b,0,G,rfl,⟨_,_,_,W _ _ Z,fun j v hj=>by rw [Nat.zero_add]; simpa using U j v hj⟩,El.mono D g1⟩
theorem Ops.ownB {b k:Nat} {cs:List Value} (O:Del m (Fw.pto b (.cells cs.toArray e (0,0))) m') (D:RepCs El I cs ys) (hk:k=ys.length) (V:Ops P ops l n E (Sym w0 M I0 I (OwnSl El e (some ⟨b,0,none⟩) k ys :: m')) Q) :
    Ops P ops l n E (Sym w0 M I0 I m) Q:=
  Ops.pre (fun _ Z=>(Z.del O).weaken (B:=OwnSl El e (some ⟨b,0,none⟩) k ys) fun q J=>.inr ⟨b,_,rfl,J,by omega,by simp [D.1,hk],fun i x Y=>by
    obtain ⟨h,W,G⟩:=D.2.1 i x Y
    exact ⟨h,W,fun j v U=>by simpa using G j v U⟩⟩) V
theorem Ops.sliceV {lo hi mx:Option Operand} {vl Z G:Option Value} {L H k s:Nat} (hT:P.underlying T=some (.slice e)) (hs:∀ w,(sizeOf e).run P w=.ok s w) (hx:ev E x=some (.slice a k cap)) (hk:k=xs.length)
    (hc:xs.length≤cap) (hl:xS E lo=some vl) (hh:xS E hi=some Z) (hm:xS E mx=some G) (D:vl=none∧L=0∨∃ q i,vl=some (.int q i)∧0≤i∧i.toNat=L)
    (V:Z=none∧H=k∧G=none∨∃ q i,Z=some (.int q i)∧0≤i∧i.toNat=H) (hmx:G=none∨G=Z)
    (h1:L≤H) (h2:H≤xs.length) {cm:Nat} (h:cm=match G with | none=>cap | some _=>H) (hb:Nat.blt d n.sz=true) (hf:fresh E d=true)
    (k':Ops P ops l n ((d,.slice (if cm=L then a else a.map (·.add (L*s))) ((xs.take H).drop L).length (cm - L)) :: E) S Q) :
    Ops P ops (⟨some d,.slice T x lo hi mx,ty,pos,af,none⟩ :: l) n E S Q:=by
  subst hk
  have Y:((xs.take H).drop L).length=H - L:=by simp; omega
  rw [Y] at k'
  refine Ops.val rfl rfl (fun c w ho _=>?_) hb hf k'
  have hbd:(Instr.sliceBounds true xs.length cap vl Z G).run P w=.ok (L,H,cm) w:=by
    simp only [Instr.sliceBounds]
    rcases hmx with rfl | rfl
    · simp only at h; subst h
      rcases V with ⟨rfl,rfl,_⟩ | ⟨q,i,rfl,h3,W⟩ <;> rcases D with ⟨rfl,rfl⟩ | ⟨q',O,rfl,U,J⟩
      · simp
      · have:O≤(xs.length:Int):=by omega
        simp [Instr.sliceBound,asIntOf,U,this,J]
      · have:i≤(cm:Int):=by omega
        simp [Instr.sliceBound,asIntOf,h3,this,W]
      · have g1:i≤(cm:Int):=by omega
        have g2:O≤(H:Int):=by omega
        simp [Instr.sliceBound,asIntOf,h3,g1,U,g2,W,J]
    · rcases V with ⟨rfl,rfl,_⟩ | ⟨q,i,rfl,h3,W⟩
      · simp only at h; subst h
        rcases D with ⟨rfl,rfl⟩ | ⟨q',O,rfl,U,J⟩
        · simp
        · have:O≤(xs.length:Int):=by omega
          simp [Instr.sliceBound,asIntOf,U,this,J]
      · simp only at h; subst h
        have g0:i≤(cap:Int):=by omega
        rcases D with ⟨rfl,rfl⟩ | ⟨q',O,rfl,U,J⟩
        · have:i≤(cm:Int):=by omega
          simp [Instr.sliceBound,asIntOf,h3,g0,this,W]
        · have g1:i≤(cm:Int):=by omega
          have g2:O≤(cm:Int):=by omega
          simp [Instr.sliceBound,asIntOf,h3,g0,g1,U,g2,W,J]
  simp only [execOp,ho.eval hx,PT ho hl,PT ho hh,PT ho hm,Instr.sliceAt,Sem.run_bind,run_underlying hT,Result.andThen_ok,Instr.slice,hbd,hs,Sem.run_pure]
theorem RepSl.sliceM (h:RepSl El I a cap xs) {L H cm:Nat} (U:L≤H) (V:H≤xs.length) (J:cm=cap∨cm=H) :
    RepSl El I (if cm=L then a else a.map (·.add (L*El.sz))) (cm - L) ((xs.take H).drop L):=by
  have hc:=h.1
  refine ⟨by simp; omega,fun i x G=>?_⟩
  have O:=(h.slice U V).2 i x G
  have D:(xs.take H).drop L≠[]:=fun e=>by rw [e] at G; simp at G
  have W:L<H:=by
    have:=List.length_pos_iff.2 D
    simp at this; omega
  rw [if_neg (by omega)]
  rwa [if_neg (by omega)] at O
theorem Ops.ixa0 {k s b:Nat} {q:IntKind} {i:Int} (W:P.underlying T=some (.slice e)) (U:∀ w,(sizeOf e).run P w=.ok s w) (O:ev E x=some (.slice (some ⟨b,0,none⟩) k cap))
    (G:ev E y=some (.int q i)) (D:0≤i) (hk:i<k) (J:Nat.blt d n.sz=true) (V:fresh E d=true) (h:Ops P ops l n ((d,.pointer (some ⟨b,i.toNat*s,none⟩)) :: E) S Q) :
    Ops P ops (⟨some d,.indexAddr T x y,ty,pos,af,none⟩ :: l) n E S Q:=Ops.ixa (off:=0) W U O rfl G D hk J V (by rw [Nat.zero_add]; exact h)
theorem Ops.ixArr {h s b off o:Nat} {q:IntKind} {i:Nat} (U:P.underlying T=some (.array h e)) (Z:∀ w,(sizeOf e).run P w=.ok s w) (W:ev E x=some (.pointer (some ⟨b,off,none⟩)))
    (V:ev E y=some (.int q (i:Int))) (hk:i<h) (G:off+i*s=o) (J:Nat.blt d n.sz=true) (hf:fresh E d=true) (O:Ops P ops l n ((d,.pointer (some ⟨b,o,none⟩)) :: E) S Q) :
    Ops P ops (⟨some d,.indexAddr T x y,ty,pos,af,none⟩ :: l) n E S Q:=
  Ops.val rfl rfl (fun c w D _=>by
    have e1:(⟨b,off,none⟩:Addr).add (i*s)=⟨b,o,none⟩:=by rw [←G]; unfold Addr.add; split <;> simp_all
    have Y:(0:Int)≤(i:Int):=by omega
    simp [execOp,Instr.indexAt,Instr.sureAddr,D.eval W,D.eval V,asIntOf,run_underlying U,Y,hk,Z,e1]) J hf O
theorem Ops.index1 {h s:Nat} {q:IntKind} {i:Nat} {cs:List Value} {v:Value} (hT:P.underlying T=some (.array h e)) (Z:∀ w,(sizeOf e).run P w=.ok s w) (O:∀ w,(isAgg e).run P w=.ok false w) (W:ev E x=some (.agg cs.toArray))
    (V:ev E y=some (.int q (i:Int))) (hk:i<h) (G:cs[i*s]? = some v) (J:Nat.blt d n.sz=true) (hf:fresh E d=true) (U:Ops P ops l n ((d,v) :: E) S Q) :
    Ops P ops (⟨some d,.index T x y,ty,pos,af,none⟩ :: l) n E S Q:=
  Ops.val rfl rfl (fun c w D _=>by
    have Y:(0:Int)≤(i:Int):=by omega
    simp [execOp,Instr.index,D.eval W,D.eval V,asIntOf,run_underlying hT,Y,hk,Z,part,O,G]) J hf U
theorem Ops.make {z:Value} {zv:α} {i:TypeInfo} {q q':IntKind} {c:Int} (B:Nat) (hT:P.underlying T=some (.slice e)) (hi:P.info? e=some i) (Z:i.size=El.sz) (hB:i.bytes=B) (hz:i.zero=some z) (hr:El.rep I (cellsOf z) zv)
    (hx:ev E x=some (.int q c)) (hy:ev E y=some (.int q' c)) (h0:0≤c) (h1:c*B≤140737488355328) (hB0:Nat.blt 0 B=true) (hb:Nat.blt d n.sz=true) (hf:fresh E d=true)
    (k:∀ b,Ops P ops l n ((d,.slice (some ⟨b,0,none⟩) (List.replicate c.toNat zv).length c.toNat) :: E) (Sym w0 M I0 I (OwnSl El e (some ⟨b,0,none⟩) c.toNat (List.replicate c.toNat zv) :: m)) Q) :
    Ops P ops (⟨some d,.makeSlice T x y,ty,pos,af,none⟩ :: l) n E (Sym w0 M I0 I m) Q:=by
  have hB1:0<B:=by simpa [Nat.blt_eq] using hB0
  have hc:c≤140737488355328:=by
    have:c*1≤c*(B:Int):=Int.mul_le_mul_of_nonneg_left (by omega) h0
    omega
  have hw:IntKind.i64.wrap c=c:=by
    have e1:IntKind.i64.wrap c=(let m:=c % 18446744073709551616; if m≥9223372036854775808 then m - 18446744073709551616 else m):=by
      simp [IntKind.wrap,IntKind.bits,IntKind.signed]
    rw [e1]; simp only []; omega
  have O:z.cells.size=El.sz:=by rw [TB]; simpa using El.len hr
  refine Ops.valx (fun v w'=>∃ b,v=.slice (some ⟨b,0,none⟩) (List.replicate c.toNat zv).length c.toNat∧Sym w0 M I0 I (OwnSl El e (some ⟨b,0,none⟩) c.toNat (List.replicate c.toNat zv) :: m) w') rfl rfl
    (fun cc w Y h=>⟨.slice (some ⟨w.heap.size,0,none⟩) (List.replicate c.toNat zv).length c.toNat,w.alloc (.cells ((Array.range (c.toNat*El.sz)).map ((if c.toNat*El.sz=0 then #[] else z.cells)[· % (if c.toNat*El.sz=0 then #[] else z.cells).size]!)) e),?_,_,rfl,?_⟩) hb hf
    (fun v cc w Y ⟨b,hv,h⟩=>by subst hv; exact k b cc w Y h)
  · have hso:∀ w,(sizeOf e).run P w=.ok El.sz w:=fun w=>by simp [sizeOf,typeInfo,hi,Z]
    have U:∀ w,(typeInfo e).run P w=.ok i w:=fun w=>by simp [typeInfo,hi]
    have hzv:∀ w,(zeroValue e).run P w=.ok z w:=fun w=>by simp [zeroValue,U,hz]
    have h2:(B:Int)*c≤140737488355328:=by rw [Int.mul_comm]; exact h1
    have g2:¬((c<0∨281474976710656<(B:Int)*c)∨c<0):=by omega
    simp only [execOp,Instr.makeSlice,Y.eval hx,Y.eval hy,Sem.run_bind,run_underlying hT,Result.andThen_ok,asInt,asIntOf,Sem.run_pure,U,hB,hw]
    by_cases hcz:c.toNat*El.sz=0 <;> simp [newRow,g2,hso,hzv,hcz]
  · refine (h.alloc _).weaken fun q hq=>.inr ⟨_,_,rfl,hq,by simp,by simp,fun i' x' D=>?_⟩
    have J:=(List.getElem?_eq_some_iff.1 D).1
    have hxz:x'=zv:=by rw [List.getElem?_replicate] at D; split at D <;> simp_all
    subst hxz
    refine ⟨_,hr,fun j v hj=>?_⟩
    have G:j<El.sz:=by rw [←El.len hr]; exact (List.getElem?_eq_some_iff.1 hj).1
    rw [List.length_replicate] at J
    have hm2:(i'+1)*El.sz≤c.toNat*El.sz:=Nat.mul_le_mul_right _ J
    rw [Nat.add_mul,Nat.one_mul] at hm2
    have hne:¬c.toNat*El.sz=0:=by omega
    simp only [hne,if_false,Array.getElem?_map,Array.getElem?_range]
    rw [if_pos (by omega)]
    have V:(i'*El.sz+j) % El.sz=j:=by rw [Nat.add_comm,Nat.add_mul_mod_self_right]; exact Nat.mod_eq_of_lt G
    simp only [Option.map_some,O,V,Option.some.injEq]
    have W:j<z.cells.size:=by rw [O]; exact G
    have e4:z.cells=(cellsOf z).toArray:=TB z
    rw [getElem!_pos z.cells j W]
    have:z.cells[j]? = some v:=by rw [e4]; simpa using hj
    rw [Array.getElem?_eq_getElem W] at this
    exact Option.some.inj this
theorem Ops.sliceW {lo hi mx:Option Operand} {W D h:Option Value} {L H k s:Nat} {a':Option Addr} {Z:Nat} (hT:P.underlying T=some (.slice e)) (hs:∀ w,(sizeOf e).run P w=.ok s w) (hx:ev E x=some (.slice a k cap)) (hk:k=xs.length)
    (hc:xs.length≤cap) (hl:xS E lo=some W) (hh:xS E hi=some D) (hm:xS E mx=some h) (O:W=none∧L=0∨∃ q i,W=some (.int q i)∧0≤i∧i.toNat=L)
    (V:D=none∧H=k∧h=none∨∃ q i,D=some (.int q i)∧0≤i∧i.toNat=H) (U:h=none∨h=D)
    (h1:L≤H) (h2:H≤xs.length) {cm:Nat} (J:cm=match h with | none=>cap | some _=>H) (G:(if cm=L then a else a.map (·.add (L*s)))=a') (Y:cm - L=Z) (hb:Nat.blt d n.sz=true) (hf:fresh E d=true)
    (k':Ops P ops l n ((d,.slice a' ((xs.take H).drop L).length Z) :: E) S Q) :
    Ops P ops (⟨some d,.slice T x lo hi mx,ty,pos,af,none⟩ :: l) n E S Q:=
  Ops.sliceV hT hs hx hk hc hl hh hm O V U h1 h2 J hb hf (by rw [G,Y]; exact k')
theorem RepSl.sliceW (h:RepSl El I a cap xs) (L H cm:Nat) (J:L≤H) (O:H≤xs.length) (D:cm=cap∨cm=H) :
    ∃ a' G,(if cm=L then a else a.map (·.add (L*El.sz)))=a'∧cm - L=G∧RepSl El I a' G ((xs.take H).drop L):=⟨_,_,rfl,rfl,h.sliceM J O D⟩
theorem KG {z:Nat} {J:List ResultVar} {vs:List Value} {O:Func} {φ:IH→Value→List HA→Prop} (V:O.results=J.toArray) (h:ResR P E m J vs) (G:I0.le I) (hp:Pick m m') (W:φ I (tup vs) m') :
    ∀ c w,Ok ⟨z,[],none⟩ E c→Sym w0 M I0 I m w→JJ P O (TA w0 M I0 φ) .ret c w:=fun _ _ U D=>Ad5 U h V D fun _ D=>⟨_,I,m',rfl,G,W,D.pick hp⟩
theorem AhB {z:Nat} {O:List Nat} {V:List HA} (Y:Del V (MZ O) m) {J:List ResultVar} {vs:List Value} {U:Func} {φ:IH→Value→List HA→Prop} (Z:U.results=J.toArray) (h:ResR P E m J vs) (G:I0.le I) (hp:Pick m m') (hφ:φ I (tup vs) m') :
    ∀ c w,Ok ⟨z,O,none⟩ E c→Sym w0 M I0 I V w→JJ P U (TA w0 M I0 φ) .ret c w:=fun _ _ W D=>Ad4 Y W h Z D fun _ D=>⟨_,I,m',rfl,G,hφ,D.pick hp⟩
def nB (P:Program) (f:FuncId) (vs:List Value) (I:IH) (φ:IH→Value→List HA→Prop):Prop:=Fun P f vs.toArray I [] φ
theorem Ops.callO {g:FuncId} {args:List Operand} {vs:List Value} {G:Array TypeId} {φ:IH→Value→List HA→Prop} (O:∀ as w,(callFunc g as).run P w=.ok (.enter g as) w)
    (U:xT E args=some vs) (W:nB P g vs I φ) (V:Nat.blt d n.sz=true) (D:fresh E d=true)
    (k:∀ v h J,I.le h→φ h v J→Ops P ops l n ((d,v) :: E) (Sym w0 M I0 h (J++m)) Q) :
    Ops P ops (⟨some d,.call ⟨.value (.func g),args.toArray,G⟩,ty,pos,af,none⟩ :: l) n E (Sym w0 M I0 I m) Q:=
  Ops.callF (mf:=[]) (mr:=m) O U W V D k
theorem RF {z:Nat} {J:List ResultVar} {vs:List Value} {O:Func} {φ:IH→Value→List HA→Prop} (V:O.results=J.toArray) (h:ResR P E m J vs) (G:I0.le I) (hp:Pick m m') (W:φ I (tup vs) m') :
    ∀ c w,Ok ⟨z,[],none⟩ E c→Sym w0 M I0 I m w→JJ P O (TA w0 M I0 φ) .normal c w:=fun _ _ U D=>Ad5 U h V D fun _ D=>⟨_,I,m',rfl,G,W,D.pick hp⟩
theorem Ops.reat {A B:HA} (G:At m A m' B) (h:A=B) (k:Ops P ops l n E (Sym w0 M I0 I m') Q):Ops P ops l n E (Sym w0 M I0 I m) Q:=
  Ops.pre (fun _ D=>D.reAt G fun _ D=>h▸D) k
inductive kC (E:DY) (s:Nat):List Value→List (Nat×Operand)→List Value→Prop
  | n {z:List Value}:kC E s z [] z
  | c {z z' cs vs:List Value} {i:Nat} {x:Operand} {r:List (Nat×Operand)} {v:Value} (hx:ev E x=some v) (hv:cellsOf v=vs) (hl:vs.length=s) (hp:PutC z (i*s) vs z') (k:kC E s z' r cs):kC E s z ((i,x) :: r) cs
theorem Ad6 {s:Nat} {ev':Operand→Value}:∀ {z:List Value} {r:List (Nat×Operand)} {cs:List Value},kC E s z r cs→(∀ x v,ev E x=some v→ev' x=v) →
    Instr.fill (fun i=>some (i*s,s)) z.toArray (r.map fun p=>(p.1,ev' p.2))=some cs.toArray:=by
  intro z r cs h
  induction h with
  | n=>intros; rfl
  | @c z G cs vs i x r v V U hl hp k J=>
    intro he
    obtain ⟨D,Y⟩:=hp.eq
    have W:(ev' x).cells=vs.toArray:=by rw [he x v V,TB,U]
    simp only [List.map_cons,Instr.fill,W]
    rw [if_neg (by simp; omega)]
    have O:vs.toArray.zipIdx.foldl (fun cs (p:Value×Nat)=>cs.setIfInBounds (i*s+p.2) p.1) z.toArray=G.toArray:=by
      rw [←Array.foldl_toList,Array.toList_zipIdx]
      rw [cH vs (i*s) 0 z.toArray (by simp; omega)]
      simp [D]
    rw [O]
    exact J he
theorem Ops.buildArr {G s:Nat} {z:List Value} {h:List (Nat×Operand)} {cs:List Value} (J:∀ w,(zeroValue T).run P w=.ok (.agg z.toArray) w) (hT:P.underlying T=some (.array G e))
    (W:∀ w,(sizeOf e).run P w=.ok s w) (Z:kC E s z h cs) (O:Nat.blt d n.sz=true) (Y:fresh E d=true) (k:Ops P ops l n ((d,.agg cs.toArray) :: E) S Q) :
    Ops P ops (⟨some d,.build T h.toArray,ty,pos,af,none⟩ :: l) n E S Q:=
  Ops.val rfl rfl (fun a w U _=>by
    have D:=Ad6 (ev':=a.eval) Z (fun x v V=>U.eval V)
    simp only [execOp,Instr.build,Sem.run_bind,J,Result.andThen_ok,run_underlying hT,Value.cells,W]
    have e:(Array.map (fun (x:Nat×Operand)=>(x.1,a.eval x.2)) h.toArray).toList=h.map fun p=>(p.1,a.eval p.2):=by simp
    rw [show (Array.map (fun x=>match x with | (i,x)=>(i,a.eval x)) h.toArray).toList=h.map fun p=>(p.1,a.eval p.2) from e,D]
    simp) O Y k
end Go.Fw
