/- The engine, part G: literal slices, make, joins, what is picked of memory, parts of pure functions. -/
import Derived.Test.YtbohadngdkjljaaGreatFwF
namespace Go.Fw
open Go Go.RowKit
variable {w0 w:World} {M:Nat→Prop} {I0 I:IH} {m m':List HA}
variable {P:Program} {n:FrK} {E:DH} {S:World→Prop} {Q:Exit→Act→World→Prop} {ops:Array Oper} {l:List Oper}
variable {d ty:Nat} {pos:String} {af:Array Edge} {T e:TypeId} {x y:Operand}
variable {α:Type} {El:EL α} {xs ys:List α} {a:Option Addr} {cap:Nat}
/-! ### Pure parts -/
def slP (xs:List α) (lo hi:Int) (K:List α→Prop):Prop:=0≤lo∧lo≤hi∧hi≤(xs.length:Int)∧K ((xs.take hi.toNat).drop lo.toNat)
def nzP (b:Int) (K:Prop):Prop:=b≠0∧K
def nnP (b:Int) (K:Prop):Prop:=0≤b∧K
def mkP (B:Nat) (c:Int) (z:α) (K:List α→Prop):Prop:=0≤c∧c*B≤140737488355328∧K (List.replicate c.toNat z)
def FW {σ:Type} (m:(σ→Prop)→Prop) (k:σ→Prop):Prop:=m k
theorem AJ {i:Int} {v:α} (h:xs[i.toNat]? = some v) (h0:0≤i):i<(xs.length:Int):=by
  have:=(List.getElem?_eq_some_iff.1 h).1; omega
theorem FX {i:Nat} {v:α} (h:xs[i]? = some v):xs≠[]:=fun e=>by subst e; simp at h
theorem split {G:Prop} (b:Bool) (h1:b=true→G) (h0:b=false→G):G:=by cases b <;> simp_all
theorem Cod.joinQ {σ:Type} {c:Code} {mm:(σ→Prop)→Prop} {k:σ→Prop} (hd:FW mm k) (St:σ→Act→World→Prop) (hx:∀ k,mm k→Cod P c n E S (Exit.then (fun a w=>∃ s,k s∧St s a w) Q))
    (hy:∀ s,k s→∀ a w,St s a w→Q .normal a w):Cod P c n E S Q:=
  fun a w ho hs=>Code.wpIn_mono (fun e a w q=>by cases e <;> first | exact q | exact (let ⟨s,hk,h⟩:=q; hy s hk a w h)) (hx k hd a w ho hs)
theorem Ops.joinQ {σ:Type} {mm:(σ→Prop)→Prop} {k:σ→Prop} (hd:FW mm k) (St:σ→Act→World→Prop) (hx:∀ k,mm k→Ops P ops l n E S (Exit.then (fun a w=>∃ s,k s∧St s a w) Q))
    (hy:∀ s,k s→∀ a w,St s a w→Q .normal a w):Ops P ops l n E S Q:=by
  intro a w ho hs
  have h:=hx k hd a w ho hs
  clear hx hd ho hs
  induction l generalizing a w with
  | nil=>obtain ⟨s,hk,h⟩:=h; exact hy s hk a w h
  | cons o l ih=>
    unfold wpListIn at h ⊢
    split
    · rename_i hw
      rw [if_pos hw] at h
      unfold Oper.wpIn at h ⊢
      refine ⟨h.1,?_⟩
      replace h:=h.2
      generalize (o.semAt (RJ n).round a.eval).run P w=r at h ⊢
      cases r with
      | ok x w'=>
        cases x <;> simp only [Oper.uponIn] at h ⊢
        case value=>exact ih _ _ h
        case skip=>exact ih _ _ h
        case defer=>exact ih _ _ h
        case enter f args=>
          refine ⟨h.1,CallsIn.mono h.2 fun e w'' he=>?_⟩
          cases e with
          | returned v=>exact ih _ _ he
          | panicked c=>exact he
          | outgrown=>obtain ⟨a',w',h2⟩:=he; exact ⟨a',w',h2⟩
        case round=>
          refine ⟨h.1,RoundIn.mono h.2 fun e w'' he=>?_⟩
          cases e with
          | returned v=>exact ih _ _ he
          | panicked c=>exact he
          | outgrown=>obtain ⟨a',w',h2⟩:=he; exact ⟨a',w',h2⟩
        case row=>exact ⟨h.1,RowsIn.mono h.2 fun v w'' he=>ih _ _ he⟩
      | halt x w'=>cases x <;> simp only [Oper.uponIn] at h ⊢; exact h
    · rename_i hw
      rw [if_neg hw] at h
      exact ⟨h.1,ih _ _ h.2⟩
inductive Pick:List HA→List HA→Prop
  | n {l:List HA}:Pick l []
  | c {l m r:List HA} {A:HA} (h:Del l A m) (k:Pick m r):Pick l (A :: r)
theorem zV {l r:List HA} (hp:Pick l r):∀ {h:IH},MQ l I h→MQ r I h:=by
  induction hp with
  | n=>intros; trivial
  | c hd _ ih=>
    intro h hs
    obtain ⟨h1,h2,hdj,hl1,hl2,ha,hs'⟩:=aL hd hs
    exact ⟨h1,h2,hdj,hl1,hl2,ha,ih hs'⟩
theorem Sym.pick (h:Sym w0 M I0 I m w) (hp:Pick m m'):Sym w0 M I0 I m' w:=by
  obtain ⟨hb,hi,hn,k,hs,hk,hd,hm⟩:=h
  exact ⟨hb,hi,hn,k,zV hp hs,hk,hd,hm⟩
theorem Ops.pick (hp:Pick m m') (k:Ops P ops l n E (Sym w0 M I0 I m') Q):Ops P ops l n E (Sym w0 M I0 I m) Q:=Ops.pre (fun _ h=>h.pick hp) k
theorem Cod.pick {c:Code} (hp:Pick m m') (k:Cod P c n E (Sym w0 M I0 I m') Q):Cod P c n E (Sym w0 M I0 I m) Q:=Cod.pre (fun _ h=>h.pick hp) k
theorem Cod.ownF {c:Code} (hA:Del m (OwnSl El T a cap xs) m') (k:(xs≠[]→∃ b,a=some ⟨b,0,none⟩)→Cod P c n E (Sym w0 M I0 I m) Q):Cod P c n E (Sym w0 M I0 I m) Q:=by
  intro c w ho hs
  refine k (fun hne=>?_) c w ho hs
  obtain ⟨k1,ha,_⟩:=(hs.del hA).get
  rcases ha with ⟨_,h2,_⟩ | ⟨b,_,h1,_⟩
  · exact absurd h2 hne
  · exact ⟨b,h1⟩
theorem Ops.ownNe (hA:Del m (OwnSl El T a cap xs) m') (hne:xs≠[]) (k:∀ b,a=some ⟨b,0,none⟩→Ops P ops l n E (Sym w0 M I0 I m) Q):Ops P ops l n E (Sym w0 M I0 I m) Q:=by
  intro c w ho hs
  obtain ⟨k1,ha,_⟩:=(hs.del hA).get
  rcases ha with ⟨_,h2,_⟩ | ⟨b,_,h1,_⟩
  · exact absurd h2 hne
  · exact k b h1 c w ho hs
theorem Cod.ownNe {c:Code} (hA:Del m (OwnSl El T a cap xs) m') (hne:xs≠[]) (k:∀ b,a=some ⟨b,0,none⟩→Cod P c n E (Sym w0 M I0 I m) Q):Cod P c n E (Sym w0 M I0 I m) Q:=by
  intro c w ho hs
  obtain ⟨k1,ha,_⟩:=(hs.del hA).get
  rcases ha with ⟨_,h2,_⟩ | ⟨b,_,h1,_⟩
  · exact absurd h2 hne
  · exact k b h1 c w ho hs
inductive PartsR (E:DH) (s:Nat):Nat→List (Nat×Operand)→List Value→Prop
  | n {i:Nat}:PartsR E s i [] []
  | c {i:Nat} {x:Operand} {v:Value} {vs cs:List Value} {r:List (Nat×Operand)} (hx:ev E x=some v) (hv:cellsOf v=vs) (hl:vs.length=s) (k:PartsR E s (i+1) r cs):PartsR E s i ((i,x) :: r) (vs++cs)
theorem PartsR.len {s i:Nat} {parts:List (Nat×Operand)} {cs:List Value} (h:PartsR E s i parts cs):cs.length=parts.length*s:=by
  induction h with
  | n=>simp
  | c _ _ hl _ ih=>simp [ih,hl,Nat.add_mul,Nat.add_comm]
theorem vC {s:Nat} {ev':Operand→Value} (he:∀ x v,ev E x=some v→ev' x=v) {i:Nat} {parts:List (Nat×Operand)} {cs:List Value} (h:PartsR E s i parts cs) :
    ∀ z:Array Value,z.size=i*s+parts.length*s→Instr.fill (fun i=>some (i*s,s)) z (parts.map fun p=>(p.1,ev' p.2))=some (z.toList.take (i*s)++cs).toArray:=by
  induction h with
  | n=>intro z hz; simp at hz; simp only [List.map_nil,Instr.fill,List.append_nil]; rw [List.take_of_length_le (by simp; omega)]
  | @c i x v vs cs r hx hv hl k ih=>
    intro z hz
    simp only [List.length_cons,Nat.add_mul,Nat.one_mul] at hz
    have e1:(ev' x).cells=vs.toArray:=by rw [he x v hx,RX,hv]
    simp only [List.map_cons,Instr.fill,e1]
    rw [if_neg (by simp; omega)]
    have e2:vs.toArray.zipIdx.foldl (fun cs (p:Value×Nat)=>cs.setIfInBounds (i*s+p.2) p.1) z=(z.toList.take (i*s)++vs++z.toList.drop (i*s+vs.length)).toArray:=by
      rw [←Array.foldl_toList,Array.toList_zipIdx,aN vs (i*s) 0 z (by omega)]
      simp
    rw [e2,ih _ (by simp [Nat.add_mul]; omega)]
    congr 2
    have e3:(i+1)*s=(z.toList.take (i*s)++vs).length:=by simp [Nat.add_mul,hl]; omega
    rw [e3,List.take_left' rfl]
    simp
theorem Ops.buildSlice {s:Nat} {z:Value} {parts:List (Nat×Operand)} {cs:List Value} (k:Nat) (hT:P.underlying T=some (.slice e)) (hs:∀ w,(sizeOf e).run P w=.ok s w) (hz:∀ w,(zeroValue e).run P w=.ok z w)
    (hk:k=parts.length) (hlim:Nat.ble (k*s) 16777216=true) (hp:PartsR E s 0 parts cs) (hb:Nat.blt d n.sz=true) (hf:fresh E d=true)
    (k':∀ b,Ops P ops l n ((d,.slice (some ⟨b,0,none⟩) k k) :: E) (Sym w0 M I0 I (pto b (.cells cs.toArray e) :: m)) Q) :
    Ops P ops (⟨some d,.buildSlice T k parts.toArray,ty,pos,af,none⟩ :: l) n E (Sym w0 M I0 I m) Q:=
  Ops.valx (fun v w'=>∃ b,v=.slice (some ⟨b,0,none⟩) k k∧Sym w0 M I0 I (pto b (.cells cs.toArray e) :: m) w') rfl rfl
    (fun c w ho hs'=>⟨.slice (some ⟨w.heap.size,0,none⟩) k k,w.alloc (.cells cs.toArray e),by
      have hl:¬k*s > 16777216:=by have:=Nat.le_of_ble_eq_true hlim; omega
      have hfill:=fun zz:Array Value=>vC (ev':=c.eval) (fun x v hx=>ho.eval hx) hp ((Array.range (k*s)).map (zz[· % zz.size]!)) (by simp [hk])
      have e1:(Array.map (fun (x:Nat×Operand)=>(x.1,c.eval x.2)) parts.toArray).toList=parts.map fun p=>(p.1,c.eval p.2):=by simp
      have e2:(Array.map (fun x=>match x with | (i,x)=>(i,c.eval x)) parts.toArray).toList=parts.map fun p=>(p.1,c.eval p.2):=e1
      simp only [execOp,Instr.buildSlice,Sem.run_bind,run_underlying hT,Result.andThen_ok,hs,hl,if_false,e2]
      simp only [hfill]
      by_cases hks:k*s=0 <;> simp [hks,newRow,hz],_,rfl,hs'.alloc _⟩) hb hf
    (fun v c w ho ⟨b,hv,hs'⟩=>by subst hv; exact k' b c w ho hs')
theorem RepCs.app {c1 c2:List Value} {v:α} {vs:List α} (h:El.rep I c1 v) (k:RepCs El I c2 vs):RepCs El I (c1++c2) (v :: vs):=.cons h k
theorem Ops.pubB {b k:Nat} {cs:List Value} (hA:Del m (Fw.pto b (.cells cs.toArray e (0,0))) m') (hR:RepCs El I cs ys) (hk:k=ys.length) (k':∀ I',I.le I'→RepSl El I' (some ⟨b,0,none⟩) k ys→Ops P ops l n E (Sym w0 M I0 I' m') Q) :
    Ops P ops l n E (Sym w0 M I0 I m) Q:=by
  intro c w ho hs
  obtain ⟨I',q,hle,ha,hq,hs'⟩:=(hs.del hA).publish
  refine k' I' hle ⟨by omega,fun i x hx=>?_⟩ c w ho hs'
  obtain ⟨cs',g1,g2⟩:=hR.2.1 i x hx
  exact ⟨b,0,cs',rfl,⟨_,_,_,hq _ _ ha,fun j v hj=>by rw [Nat.zero_add]; simpa using g2 j v hj⟩,El.mono hle g1⟩
theorem Ops.ownB {b k:Nat} {cs:List Value} (hA:Del m (Fw.pto b (.cells cs.toArray e (0,0))) m') (hR:RepCs El I cs ys) (hk:k=ys.length) (k':Ops P ops l n E (Sym w0 M I0 I (OwnSl El e (some ⟨b,0,none⟩) k ys :: m')) Q) :
    Ops P ops l n E (Sym w0 M I0 I m) Q:=
  Ops.pre (fun _ hs=>(hs.del hA).weaken (B:=OwnSl El e (some ⟨b,0,none⟩) k ys) fun q hq=>.inr ⟨b,_,rfl,hq,by omega,by simp [hR.1,hk],fun i x hx=>by
    obtain ⟨cs',g1,g2⟩:=hR.2.1 i x hx
    exact ⟨cs',g1,fun j v hj=>by simpa using g2 j v hj⟩⟩) k'
theorem Ops.sliceV {lo hi mx:Option Operand} {vl vh vm:Option Value} {L H k s:Nat} (hT:P.underlying T=some (.slice e)) (hs:∀ w,(sizeOf e).run P w=.ok s w) (hx:ev E x=some (.slice a k cap)) (hk:k=xs.length)
    (hc:xs.length≤cap) (hl:uQ E lo=some vl) (hh:uQ E hi=some vh) (hm:uQ E mx=some vm) (hlo:vl=none∧L=0∨∃ q i,vl=some (.int q i)∧0≤i∧i.toNat=L)
    (hhi:vh=none∧H=k∧vm=none∨∃ q i,vh=some (.int q i)∧0≤i∧i.toNat=H) (hmx:vm=none∨vm=vh)
    (h1:L≤H) (h2:H≤xs.length) {cm:Nat} (hcm:cm=match vm with | none=>cap | some _=>H) (hb:Nat.blt d n.sz=true) (hf:fresh E d=true)
    (k':Ops P ops l n ((d,.slice (if cm=L then a else a.map (·.add (L*s))) ((xs.take H).drop L).length (cm - L)) :: E) S Q) :
    Ops P ops (⟨some d,.slice T x lo hi mx,ty,pos,af,none⟩ :: l) n E S Q:=by
  subst hk
  have hlen:((xs.take H).drop L).length=H - L:=by simp; omega
  rw [hlen] at k'
  refine Ops.val rfl rfl (fun c w ho _=>?_) hb hf k'
  have hbd:(Instr.sliceBounds true xs.length cap vl vh vm).run P w=.ok (L,H,cm) w:=by
    simp only [Instr.sliceBounds]
    rcases hmx with rfl | rfl
    · simp only at hcm; subst hcm
      rcases hhi with ⟨rfl,rfl,_⟩ | ⟨q,i,rfl,h3,h4⟩ <;> rcases hlo with ⟨rfl,rfl⟩ | ⟨q',i',rfl,h5,h6⟩
      · simp
      · have:i'≤(xs.length:Int):=by omega
        simp [Instr.sliceBound,asIntOf,h5,this,h6]
      · have:i≤(cm:Int):=by omega
        simp [Instr.sliceBound,asIntOf,h3,this,h4]
      · have g1:i≤(cm:Int):=by omega
        have g2:i'≤(H:Int):=by omega
        simp [Instr.sliceBound,asIntOf,h3,g1,h5,g2,h4,h6]
    · rcases hhi with ⟨rfl,rfl,_⟩ | ⟨q,i,rfl,h3,h4⟩
      · simp only at hcm; subst hcm
        rcases hlo with ⟨rfl,rfl⟩ | ⟨q',i',rfl,h5,h6⟩
        · simp
        · have:i'≤(xs.length:Int):=by omega
          simp [Instr.sliceBound,asIntOf,h5,this,h6]
      · simp only at hcm; subst hcm
        have g0:i≤(cap:Int):=by omega
        rcases hlo with ⟨rfl,rfl⟩ | ⟨q',i',rfl,h5,h6⟩
        · have:i≤(cm:Int):=by omega
          simp [Instr.sliceBound,asIntOf,h3,g0,this,h4]
        · have g1:i≤(cm:Int):=by omega
          have g2:i'≤(cm:Int):=by omega
          simp [Instr.sliceBound,asIntOf,h3,g0,g1,h5,g2,h4,h6]
  simp only [execOp,ho.eval hx,OU ho hl,OU ho hh,OU ho hm,Instr.sliceAt,Sem.run_bind,run_underlying hT,Result.andThen_ok,Instr.slice,hbd,hs,Sem.run_pure]
theorem RepSl.sliceM (h:RepSl El I a cap xs) {L H cm:Nat} (h1:L≤H) (h2:H≤xs.length) (hcm:cm=cap∨cm=H) :
    RepSl El I (if cm=L then a else a.map (·.add (L*El.sz))) (cm - L) ((xs.take H).drop L):=by
  have hc:=h.1
  refine ⟨by simp; omega,fun i x hx=>?_⟩
  have h':=(h.slice h1 h2).2 i x hx
  have hne:(xs.take H).drop L≠[]:=fun e=>by rw [e] at hx; simp at hx
  have hLH:L<H:=by
    have:=List.length_pos_iff.2 hne
    simp at this; omega
  rw [if_neg (by omega)]
  rwa [if_neg (by omega)] at h'
theorem Ops.ixa0 {k s b:Nat} {q:IntKind} {i:Int} (hT:P.underlying T=some (.slice e)) (hs:∀ w,(sizeOf e).run P w=.ok s w) (hx:ev E x=some (.slice (some ⟨b,0,none⟩) k cap))
    (hy:ev E y=some (.int q i)) (h0:0≤i) (hk:i<k) (hb:Nat.blt d n.sz=true) (hf:fresh E d=true) (k':Ops P ops l n ((d,.pointer (some ⟨b,i.toNat*s,none⟩)) :: E) S Q) :
    Ops P ops (⟨some d,.indexAddr T x y,ty,pos,af,none⟩ :: l) n E S Q:=Ops.ixa (off:=0) hT hs hx rfl hy h0 hk hb hf (by rw [Nat.zero_add]; exact k')
theorem Ops.ixArr {len s b off o:Nat} {q:IntKind} {i:Nat} (hT:P.underlying T=some (.array len e)) (hs:∀ w,(sizeOf e).run P w=.ok s w) (hx:ev E x=some (.pointer (some ⟨b,off,none⟩)))
    (hy:ev E y=some (.int q (i:Int))) (hk:i<len) (ho:off+i*s=o) (hb:Nat.blt d n.sz=true) (hf:fresh E d=true) (k':Ops P ops l n ((d,.pointer (some ⟨b,o,none⟩)) :: E) S Q) :
    Ops P ops (⟨some d,.indexAddr T x y,ty,pos,af,none⟩ :: l) n E S Q:=
  Ops.val rfl rfl (fun c w hc _=>by
    have e1:(⟨b,off,none⟩:Addr).add (i*s)=⟨b,o,none⟩:=by rw [←ho]; unfold Addr.add; split <;> simp_all
    have h2:(0:Int)≤(i:Int):=by omega
    simp [execOp,Instr.indexAt,Instr.sureAddr,hc.eval hx,hc.eval hy,asIntOf,run_underlying hT,h2,hk,hs,e1]) hb hf k'
theorem Ops.index1 {len s:Nat} {q:IntKind} {i:Nat} {cs:List Value} {v:Value} (hT:P.underlying T=some (.array len e)) (hs:∀ w,(sizeOf e).run P w=.ok s w) (hA:∀ w,(isAgg e).run P w=.ok false w) (hx:ev E x=some (.agg cs.toArray))
    (hy:ev E y=some (.int q (i:Int))) (hk:i<len) (hc:cs[i*s]? = some v) (hb:Nat.blt d n.sz=true) (hf:fresh E d=true) (k':Ops P ops l n ((d,v) :: E) S Q) :
    Ops P ops (⟨some d,.index T x y,ty,pos,af,none⟩ :: l) n E S Q:=
  Ops.val rfl rfl (fun c w ho _=>by
    have h2:(0:Int)≤(i:Int):=by omega
    simp [execOp,Instr.index,ho.eval hx,ho.eval hy,asIntOf,run_underlying hT,h2,hk,hs,part,hA,hc]) hb hf k'
theorem Ops.make {z:Value} {zv:α} {i:TypeInfo} {q q':IntKind} {c:Int} (B:Nat) (hT:P.underlying T=some (.slice e)) (hi:P.info? e=some i) (hsz:i.size=El.sz) (hB:i.bytes=B) (hz:i.zero=some z) (hr:El.rep I (cellsOf z) zv)
    (hx:ev E x=some (.int q c)) (hy:ev E y=some (.int q' c)) (h0:0≤c) (h1:c*B≤140737488355328) (hB0:Nat.blt 0 B=true) (hb:Nat.blt d n.sz=true) (hf:fresh E d=true)
    (k:∀ b,Ops P ops l n ((d,.slice (some ⟨b,0,none⟩) (List.replicate c.toNat zv).length c.toNat) :: E) (Sym w0 M I0 I (OwnSl El e (some ⟨b,0,none⟩) c.toNat (List.replicate c.toNat zv) :: m)) Q) :
    Ops P ops (⟨some d,.makeSlice T x y,ty,pos,af,none⟩ :: l) n E (Sym w0 M I0 I m) Q:=by
  have hB1:0<B:=by simpa [Nat.blt_eq] using hB0
  have hc:c≤140737488355328:=by
    have:c*1≤c*(B:Int):=Int.mul_le_mul_of_nonneg_left (by omega) h0
    omega
  have hw:IntKind.i64.wrap c=c:=by
    have e1:IntKind.i64.wrap c=(let m:=c % 18446744073709551616; if m≥9223372036854775808 then m - 18446744073709551616 else m):=by
      simp [IntKind.wrap,IntKind.bits,IntKind.signed]
    rw [e1]; simp only []; omega
  have hzl:z.cells.size=El.sz:=by rw [RX]; simpa using El.len hr
  refine Ops.valx (fun v w'=>∃ b,v=.slice (some ⟨b,0,none⟩) (List.replicate c.toNat zv).length c.toNat∧Sym w0 M I0 I (OwnSl El e (some ⟨b,0,none⟩) c.toNat (List.replicate c.toNat zv) :: m) w') rfl rfl
    (fun cc w ho hs'=>⟨.slice (some ⟨w.heap.size,0,none⟩) (List.replicate c.toNat zv).length c.toNat,w.alloc (.cells ((Array.range (c.toNat*El.sz)).map ((if c.toNat*El.sz=0 then #[] else z.cells)[· % (if c.toNat*El.sz=0 then #[] else z.cells).size]!)) e),?_,_,rfl,?_⟩) hb hf
    (fun v cc w ho ⟨b,hv,hs'⟩=>by subst hv; exact k b cc w ho hs')
  · have hso:∀ w,(sizeOf e).run P w=.ok El.sz w:=fun w=>by simp [sizeOf,typeInfo,hi,hsz]
    have hti:∀ w,(typeInfo e).run P w=.ok i w:=fun w=>by simp [typeInfo,hi]
    have hzv:∀ w,(zeroValue e).run P w=.ok z w:=fun w=>by simp [zeroValue,hti,hz]
    have h2:(B:Int)*c≤140737488355328:=by rw [Int.mul_comm]; exact h1
    have g2:¬((c<0∨281474976710656<(B:Int)*c)∨c<0):=by omega
    simp only [execOp,Instr.makeSlice,ho.eval hx,ho.eval hy,Sem.run_bind,run_underlying hT,Result.andThen_ok,asInt,asIntOf,Sem.run_pure,hti,hB,hw]
    by_cases hcz:c.toNat*El.sz=0 <;> simp [newRow,g2,hso,hzv,hcz]
  · refine (hs'.alloc _).weaken fun q hq=>.inr ⟨_,_,rfl,hq,by simp,by simp,fun i' x' hx'=>?_⟩
    have hi':=(List.getElem?_eq_some_iff.1 hx').1
    have hxz:x'=zv:=by rw [List.getElem?_replicate] at hx'; split at hx' <;> simp_all
    subst hxz
    refine ⟨_,hr,fun j v hj=>?_⟩
    have hjl:j<El.sz:=by rw [←El.len hr]; exact (List.getElem?_eq_some_iff.1 hj).1
    rw [List.length_replicate] at hi'
    have hm2:(i'+1)*El.sz≤c.toNat*El.sz:=Nat.mul_le_mul_right _ hi'
    rw [Nat.add_mul,Nat.one_mul] at hm2
    have hne:¬c.toNat*El.sz=0:=by omega
    simp only [hne,if_false,Array.getElem?_map,Array.getElem?_range]
    rw [if_pos (by omega)]
    have hmod:(i'*El.sz+j) % El.sz=j:=by rw [Nat.add_comm,Nat.add_mul_mod_self_right]; exact Nat.mod_eq_of_lt hjl
    simp only [Option.map_some,hzl,hmod,Option.some.injEq]
    have hjs:j<z.cells.size:=by rw [hzl]; exact hjl
    have e4:z.cells=(cellsOf z).toArray:=RX z
    rw [getElem!_pos z.cells j hjs]
    have:z.cells[j]? = some v:=by rw [e4]; simpa using hj
    rw [Array.getElem?_eq_getElem hjs] at this
    exact Option.some.inj this
theorem Ops.sliceW {lo hi mx:Option Operand} {vl vh vm:Option Value} {L H k s:Nat} {a':Option Addr} {c':Nat} (hT:P.underlying T=some (.slice e)) (hs:∀ w,(sizeOf e).run P w=.ok s w) (hx:ev E x=some (.slice a k cap)) (hk:k=xs.length)
    (hc:xs.length≤cap) (hl:uQ E lo=some vl) (hh:uQ E hi=some vh) (hm:uQ E mx=some vm) (hlo:vl=none∧L=0∨∃ q i,vl=some (.int q i)∧0≤i∧i.toNat=L)
    (hhi:vh=none∧H=k∧vm=none∨∃ q i,vh=some (.int q i)∧0≤i∧i.toNat=H) (hmx:vm=none∨vm=vh)
    (h1:L≤H) (h2:H≤xs.length) {cm:Nat} (hcm:cm=match vm with | none=>cap | some _=>H) (ha':(if cm=L then a else a.map (·.add (L*s)))=a') (hc':cm - L=c') (hb:Nat.blt d n.sz=true) (hf:fresh E d=true)
    (k':Ops P ops l n ((d,.slice a' ((xs.take H).drop L).length c') :: E) S Q) :
    Ops P ops (⟨some d,.slice T x lo hi mx,ty,pos,af,none⟩ :: l) n E S Q:=
  Ops.sliceV hT hs hx hk hc hl hh hm hlo hhi hmx h1 h2 hcm hb hf (by rw [ha',hc']; exact k')
theorem RepSl.sliceW (h:RepSl El I a cap xs) (L H cm:Nat) (h1:L≤H) (h2:H≤xs.length) (hcm:cm=cap∨cm=H) :
    ∃ a' c',(if cm=L then a else a.map (·.add (L*El.sz)))=a'∧cm - L=c'∧RepSl El I a' c' ((xs.take H).drop L):=⟨_,_,rfl,rfl,h.sliceM h1 h2 hcm⟩
theorem MT {z:Nat} {rs:List ResultVar} {vs:List Value} {fn:Func} {φ:IH→Value→List HA→Prop} (hr:fn.results=rs.toArray) (h:ResR P E m rs vs) (hle:I0.le I) (hp:Pick m m') (hφ:φ I (tup vs) m') :
    ∀ c w,Ok ⟨z,[],none⟩ E c→Sym w0 M I0 I m w→HM P fn (QE w0 M I0 φ) .ret c w:=fun _ _ ho hs=>xN ho h hr hs fun _ hs=>⟨_,I,m',rfl,hle,hφ,hs.pick hp⟩
theorem AfT {z:Nat} {ds:List Nat} {mm:List HA} (hM:Del mm (MF ds) m) {rs:List ResultVar} {vs:List Value} {fn:Func} {φ:IH→Value→List HA→Prop} (hr:fn.results=rs.toArray) (h:ResR P E m rs vs) (hle:I0.le I) (hp:Pick m m') (hφ:φ I (tup vs) m') :
    ∀ c w,Ok ⟨z,ds,none⟩ E c→Sym w0 M I0 I mm w→HM P fn (QE w0 M I0 φ) .ret c w:=fun _ _ ho hs=>AbG hM ho h hr hs fun _ hs=>⟨_,I,m',rfl,hle,hφ,hs.pick hp⟩
def zW (P:Program) (f:FuncId) (vs:List Value) (I:IH) (φ:IH→Value→List HA→Prop):Prop:=Fun P f vs.toArray I [] φ
theorem Ops.callO {g:FuncId} {args:List Operand} {vs:List Value} {tys:Array TypeId} {φ:IH→Value→List HA→Prop} (hg:∀ as w,(callFunc g as).run P w=.ok (.enter g as) w)
    (ha:qF E args=some vs) (hf:zW P g vs I φ) (hb:Nat.blt d n.sz=true) (hfr:fresh E d=true)
    (k:∀ v I' l',I.le I'→φ I' v l'→Ops P ops l n ((d,v) :: E) (Sym w0 M I0 I' (l'++m)) Q) :
    Ops P ops (⟨some d,.call ⟨.value (.func g),args.toArray,tys⟩,ty,pos,af,none⟩ :: l) n E (Sym w0 M I0 I m) Q:=
  Ops.callF (mf:=[]) (mr:=m) hg ha hf hb hfr k
theorem Ops.re (h:m=m') (k:Ops P ops l n E (Sym w0 M I0 I m') Q):Ops P ops l n E (Sym w0 M I0 I m) Q:=h▸k
theorem QF {z:Nat} {rs:List ResultVar} {vs:List Value} {fn:Func} {φ:IH→Value→List HA→Prop} (hr:fn.results=rs.toArray) (h:ResR P E m rs vs) (hle:I0.le I) (hp:Pick m m') (hφ:φ I (tup vs) m') :
    ∀ c w,Ok ⟨z,[],none⟩ E c→Sym w0 M I0 I m w→HM P fn (QE w0 M I0 φ) .normal c w:=fun _ _ ho hs=>xN ho h hr hs fun _ hs=>⟨_,I,m',rfl,hle,hφ,hs.pick hp⟩
theorem Ops.reat {A B:HA} (hA:At m A m' B) (h:A=B) (k:Ops P ops l n E (Sym w0 M I0 I m') Q):Ops P ops l n E (Sym w0 M I0 I m) Q:=
  Ops.pre (fun _ hs=>hs.reAt hA fun _ hs=>h▸hs) k
inductive iE (E:DH) (s:Nat):List Value→List (Nat×Operand)→List Value→Prop
  | n {z:List Value}:iE E s z [] z
  | c {z z' cs vs:List Value} {i:Nat} {x:Operand} {r:List (Nat×Operand)} {v:Value} (hx:ev E x=some v) (hv:cellsOf v=vs) (hl:vs.length=s) (hp:PutC z (i*s) vs z') (k:iE E s z' r cs):iE E s z ((i,x) :: r) cs
theorem AbH {s:Nat} {ev':Operand→Value}:∀ {z:List Value} {r:List (Nat×Operand)} {cs:List Value},iE E s z r cs→(∀ x v,ev E x=some v→ev' x=v) →
    Instr.fill (fun i=>some (i*s,s)) z.toArray (r.map fun p=>(p.1,ev' p.2))=some cs.toArray:=by
  intro z r cs h
  induction h with
  | n=>intros; rfl
  | @c z z' cs vs i x r v hx hv hl hp k ih=>
    intro he
    obtain ⟨hz',hle⟩:=hp.eq
    have e1:(ev' x).cells=vs.toArray:=by rw [he x v hx,RX,hv]
    simp only [List.map_cons,Instr.fill,e1]
    rw [if_neg (by simp; omega)]
    have e2:vs.toArray.zipIdx.foldl (fun cs (p:Value×Nat)=>cs.setIfInBounds (i*s+p.2) p.1) z.toArray=z'.toArray:=by
      rw [←Array.foldl_toList,Array.toList_zipIdx]
      rw [aN vs (i*s) 0 z.toArray (by simp; omega)]
      simp [hz']
    rw [e2]
    exact ih he
theorem Ops.buildArr {len s:Nat} {z:List Value} {parts:List (Nat×Operand)} {cs:List Value} (hz:∀ w,(zeroValue T).run P w=.ok (.agg z.toArray) w) (hT:P.underlying T=some (.array len e))
    (hs:∀ w,(sizeOf e).run P w=.ok s w) (hB:iE E s z parts cs) (hb:Nat.blt d n.sz=true) (hf:fresh E d=true) (k:Ops P ops l n ((d,.agg cs.toArray) :: E) S Q) :
    Ops P ops (⟨some d,.build T parts.toArray,ty,pos,af,none⟩ :: l) n E S Q:=
  Ops.val rfl rfl (fun a w ha _=>by
    have hfill:=AbH (ev':=a.eval) hB (fun x v hx=>ha.eval hx)
    simp only [execOp,Instr.build,Sem.run_bind,hz,Result.andThen_ok,run_underlying hT,Value.cells,hs]
    have e:(Array.map (fun (x:Nat×Operand)=>(x.1,a.eval x.2)) parts.toArray).toList=parts.map fun p=>(p.1,a.eval p.2):=by simp
    rw [show (Array.map (fun x=>match x with | (i,x)=>(i,a.eval x)) parts.toArray).toList=parts.map fun p=>(p.1,a.eval p.2) from e,hfill]
    simp) hb hf k
end Go.Fw
