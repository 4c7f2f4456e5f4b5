/- The engine, part C: variables in memory: boxes of the call's own, and cells that are immutable. -/
import Derived.Test.YtbohadngdkjljaaGreatFwB
import Derived.Laws.CopyRow
namespace Go.Fw
open Go Go.RowKit
variable {w0 w:World} {M:Nat→Prop} {I0 I:IH} {m m':List HA}
variable {P:Program} {n:FrK} {E:DH} {Q:Exit→Act→World→Prop} {ops:Array Oper} {l:List Oper}
variable {d ty:Nat} {pos:String} {af:Array Edge} {T:TypeId} {x y:Operand}
/-! ### Cells by lists -/
inductive Cut:List Value→Nat→List Value→Prop
  | nil {cs:List Value}:Cut cs 0 []
  | t {c:Value} {cs vs:List Value}:Cut cs 0 vs→Cut (c :: cs) 0 (c :: vs)
  | s {c:Value} {cs vs:List Value} {k:Nat}:Cut cs k vs→Cut (c :: cs) (k+1) vs
theorem Cut.get {cs vs:List Value} {k:Nat} (h:Cut cs k vs):∀ j v,vs[j]? = some v→cs[k+j]? = some v:=by
  induction h with
  | nil=>intro j v h; simp at h
  | t h ih=>
    intro j v hj
    cases j with
    | zero=>simpa using hj
    | succ j=>have:=ih j v (by simpa using hj); simpa [Nat.add_comm,Nat.add_left_comm] using this
  | s h ih=>intro j v hj; have:=ih j v hj; rw [Nat.add_right_comm]; simpa using this
inductive PutC:List Value→Nat→List Value→List Value→Prop
  | nil {cs:List Value}:PutC cs 0 [] cs
  | t {c v:Value} {cs vs cs':List Value}:PutC cs 0 vs cs'→PutC (c :: cs) 0 (v :: vs) (v :: cs')
  | s {c:Value} {cs vs cs':List Value} {k:Nat}:PutC cs k vs cs'→PutC (c :: cs) (k+1) vs (c :: cs')
theorem PutC.eq {cs vs cs':List Value} {k:Nat} (h:PutC cs k vs cs'):cs'=cs.take k++vs++cs.drop (k+vs.length)∧k+vs.length≤cs.length:=by
  induction h with
  | nil=>simp
  | t h ih=>obtain ⟨ih,hl⟩:=ih; simp at ih hl ⊢; exact ⟨by simpa using ih,hl⟩
  | s h ih=>
    obtain ⟨ih,hl⟩:=ih
    refine ⟨?_,by simp at hl ⊢; omega⟩
    rw [ih,Nat.add_right_comm]; simp
def one (v:Value):Bool:=v.oneCell'
def LU:List Value→Bool
  | []=>true
  | v :: vs=>one v && LU vs
theorem VB {vs:List Value} (h:LU vs=true):∀ v∈vs,v.oneCell'=true:=by
  induction vs with
  | nil=>intro v hv; cases hv
  | cons u vs ih=>
    simp only [LU,Bool.and_eq_true] at h
    intro v hv
    cases hv with
    | head=>exact h.1
    | tail _ hv=>exact ih h.2 v hv
theorem TY {b off:Nat} {v:Value} (hT:∀ w,(isAgg T).run P w=.ok false w) (hc:w.cell? ⟨b,off,none⟩=some v):(Instr.loadAt T (.pointer (some ⟨b,off,none⟩))).run P w=.ok v w:=by
  simp [Instr.loadAt,Instr.sureAddr,loadVar,hT,hc]
theorem PE {b off s:Nat} {vs:List Value} (hT:∀ w,(isAgg T).run P w=.ok true w) (hs:∀ w,(sizeOf T).run P w=.ok s w) (hl:vs.length=s) (hc:∀ j v,vs[j]? = some v→w.cell? ⟨b,off+j,none⟩=some v) :
    (Instr.loadAt T (.pointer (some ⟨b,off,none⟩))).run P w=.ok (.agg vs.toArray) w:=by
  subst hl
  have h:=run_loadCells_list (P:=P) w ⟨b,off,none⟩ vs (fun j v hv=>by
    have:=hc j v hv
    have e:(⟨b,off,none⟩:Addr).add j=⟨b,off+j,none⟩:=by unfold Addr.add; split <;> simp_all
    rw [e]; exact this)
  simp [Instr.loadAt,Instr.sureAddr,loadVar,hT,hs,h]
theorem MW {b off:Nat} {cs:Array Value} {t:TypeId} {fz:Nat×Nat} (h:w.heap[b]? = some (.cells cs t fz)):w.cell? ⟨b,off,none⟩=cs[off]?:=by simp [World.cell?,h]
theorem Ops.allocA {z:Array Value} (hz:∀ w,(zeroValue T).run P w=.ok (.agg z) w) (hb:Nat.blt d n.sz=true) (hf:fresh E d=true)
    (k:∀ b,Ops P ops l n ((d,.pointer (some ⟨b,0,none⟩)) :: E) (Sym w0 M I0 I (pto b (.cells z T) :: m)) Q) :
    Ops P ops (⟨some d,.alloc T,ty,pos,af,none⟩ :: l) n E (Sym w0 M I0 I m) Q:=
  Ops.valx (fun v w'=>∃ b,v=.pointer (some ⟨b,0,none⟩)∧Sym w0 M I0 I (pto b (.cells z T) :: m) w') rfl rfl
    (fun a w _ hs=>⟨.pointer (some ⟨w.heap.size,0,none⟩),w.alloc (.cells z T),by simp [execOp,Instr.alloc,hz,newVar,newRow,Value.cells],_,rfl,hs.alloc _⟩) hb hf
    (fun v a w ho ⟨b,hv,hs⟩=>by subst hv; exact k b a w ho hs)
theorem Ops.alloc1 {z:Value} (hz:∀ w,(zeroValue T).run P w=.ok z w) (h1:one z=true) (hb:Nat.blt d n.sz=true) (hf:fresh E d=true)
    (k:∀ b,Ops P ops l n ((d,.pointer (some ⟨b,0,none⟩)) :: E) (Sym w0 M I0 I (pto b (.cells #[z] T) :: m)) Q) :
    Ops P ops (⟨some d,.alloc T,ty,pos,af,none⟩ :: l) n E (Sym w0 M I0 I m) Q:=
  Ops.valx (fun v w'=>∃ b,v=.pointer (some ⟨b,0,none⟩)∧Sym w0 M I0 I (pto b (.cells #[z] T) :: m) w') rfl rfl
    (fun a w _ hs=>⟨.pointer (some ⟨w.heap.size,0,none⟩),w.alloc (.cells #[z] T),by
      have hc:z.cells = #[z]:=by cases z <;> first | rfl | cases h1
      simp [execOp,Instr.alloc,hz,newVar,newRow,hc],_,rfl,hs.alloc _⟩) hb hf
    (fun v a w ho ⟨b,hv,hs⟩=>by subst hv; exact k b a w ho hs)
theorem Ops.boxA {z:Array Value} (hx:ev E x=some (.agg z)) (hb:Nat.blt d n.sz=true) (hf:fresh E d=true)
    (k:∀ b,Ops P ops l n ((d,.pointer (some ⟨b,0,none⟩)) :: E) (Sym w0 M I0 I (pto b (.cells z T) :: m)) Q) :
    Ops P ops (⟨some d,.box T x,ty,pos,af,none⟩ :: l) n E (Sym w0 M I0 I m) Q:=
  Ops.valx (fun v w'=>∃ b,v=.pointer (some ⟨b,0,none⟩)∧Sym w0 M I0 I (pto b (.cells z T) :: m) w') rfl rfl
    (fun a w ho hs=>⟨.pointer (some ⟨w.heap.size,0,none⟩),w.alloc (.cells z T),by simp [execOp,Instr.box,ho.eval hx,newVar,newRow,Value.cells],_,rfl,hs.alloc _⟩) hb hf
    (fun v a w ho ⟨b,hv,hs⟩=>by subst hv; exact k b a w ho hs)
theorem Ops.box1 {z:Value} (hx:ev E x=some z) (h1:one z=true) (hb:Nat.blt d n.sz=true) (hf:fresh E d=true)
    (k:∀ b,Ops P ops l n ((d,.pointer (some ⟨b,0,none⟩)) :: E) (Sym w0 M I0 I (pto b (.cells #[z] T) :: m)) Q) :
    Ops P ops (⟨some d,.box T x,ty,pos,af,none⟩ :: l) n E (Sym w0 M I0 I m) Q:=
  Ops.valx (fun v w'=>∃ b,v=.pointer (some ⟨b,0,none⟩)∧Sym w0 M I0 I (pto b (.cells #[z] T) :: m) w') rfl rfl
    (fun a w ho hs=>⟨.pointer (some ⟨w.heap.size,0,none⟩),w.alloc (.cells #[z] T),by
      have hc:z.cells = #[z]:=by cases z <;> first | rfl | cases h1
      simp [execOp,Instr.box,ho.eval hx,newVar,newRow,hc],_,rfl,hs.alloc _⟩) hb hf
    (fun v a w ho ⟨b,hv,hs⟩=>by subst hv; exact k b a w ho hs)
theorem Ops.load1 {b off:Nat} {cs:List Value} {T':TypeId} {fz:Nat×Nat} {v:Value} (hT:∀ w,(isAgg T).run P w=.ok false w) (hx:ev E x=some (.pointer (some ⟨b,off,none⟩)))
    (hA:Del m (pto b (.cells cs.toArray T' fz)) m') (hc:cs[off]? = some v) (hb:Nat.blt d n.sz=true) (hf:fresh E d=true) (k:Ops P ops l n ((d,v) :: E) (Sym w0 M I0 I m) Q) :
    Ops P ops (⟨some d,.load T x,ty,pos,af,none⟩ :: l) n E (Sym w0 M I0 I m) Q:=
  Ops.val rfl rfl (fun a w ho hs=>by
    have h:=(hs.del hA).pto
    simp [execOp,ho.eval hx,TY (P:=P) hT ((MW h).trans (by simpa using hc))]) hb hf k
theorem Ops.loadA {b off s:Nat} {cs vs:List Value} {T':TypeId} {fz:Nat×Nat} (hT:∀ w,(isAgg T).run P w=.ok true w) (hS:∀ w,(sizeOf T).run P w=.ok s w) (hx:ev E x=some (.pointer (some ⟨b,off,none⟩)))
    (hA:Del m (pto b (.cells cs.toArray T' fz)) m') (hc:Cut cs off vs) (hl:vs.length=s) (hb:Nat.blt d n.sz=true) (hf:fresh E d=true) (k:Ops P ops l n ((d,.agg vs.toArray) :: E) (Sym w0 M I0 I m) Q) :
    Ops P ops (⟨some d,.load T x,ty,pos,af,none⟩ :: l) n E (Sym w0 M I0 I m) Q:=
  Ops.val rfl rfl (fun a w ho hs=>by
    have h:=(hs.del hA).pto
    simp [execOp,ho.eval hx,PE (P:=P) hT hS hl (fun j v hj=>(MW h).trans (by simpa using hc.get j v hj))]) hb hf k
theorem Ops.loadW {b s:Nat} {cs:List Value} {T':TypeId} {fz:Nat×Nat} (hT:∀ w,(isAgg T).run P w=.ok true w) (hS:∀ w,(sizeOf T).run P w=.ok s w) (hx:ev E x=some (.pointer (some ⟨b,0,none⟩)))
    (hA:Del m (pto b (.cells cs.toArray T' fz)) m') (hl:cs.length=s) (hb:Nat.blt d n.sz=true) (hf:fresh E d=true) (k:Ops P ops l n ((d,.agg cs.toArray) :: E) (Sym w0 M I0 I m) Q) :
    Ops P ops (⟨some d,.load T x,ty,pos,af,none⟩ :: l) n E (Sym w0 M I0 I m) Q:=
  Ops.val rfl rfl (fun a w ho hs=>by
    have h:=(hs.del hA).pto
    simp [execOp,ho.eval hx,PE (P:=P) hT hS hl (fun j v hj=>(MW (off:=0+j) h).trans (by rw [Nat.zero_add]; simpa using hj))]) hb hf k
theorem setRow_other {g i:Nat} {c:Array Value} (h:i≠g):(w.setRow g c).heap[i]? = w.heap[i]?:=by
  simp only [World.setRow,Array.getElem?_modify]
  rw [if_neg (by omega)]
theorem Sym.store {b off:Nat} {cs vs cs':List Value} {T':TypeId} (h:Sym w0 M I0 I (Fw.pto b (.cells cs.toArray T' (0,0)) :: m) w) (hp:PutC cs off vs cs') (h1:LU vs=true) :
    ∃ w',(storeCells ⟨b,off,none⟩ vs).run P w=.ok () w'∧Sym w0 M I0 I (Fw.pto b (.cells cs'.toArray T' (0,0)) :: m) w':=by
  obtain ⟨he,hl⟩:=hp.eq
  have hg:=h.pto
  have hr:=run_storeCells_at (P:=P) b off T' vs 0 cs.toArray w hg (by simpa using hl) (VB h1)
  refine ⟨_,hr,h.upd rfl rfl rfl rfl (by simp [World.setRow]) (fun k hk=>setRow_other hk) ?_⟩
  rw [setRow_heap w b _ _ T' _ hg]
  simp [he]
theorem Sym.reAt {A B:HA} (hA:At m A m' B) (h:Sym w0 M I0 I m w) {w':World} (hs:∀ r,Sym w0 M I0 I (A :: r) w→Sym w0 M I0 I (B :: r) w'):Sym w0 M I0 I m' w':=by
  obtain ⟨r,h1,h2⟩:=hA.del
  exact (hs r (h.del h1)).undel h2
theorem Ops.storeA {b off s:Nat} {cs vs cs':List Value} {T':TypeId} (hS:∀ w,(sizeOf T).run P w=.ok s w) (hx:ev E x=some (.pointer (some ⟨b,off,none⟩))) (hy:ev E y=some (.agg vs.toArray))
    (hA:At m (pto b (.cells cs.toArray T' (0,0))) m' (pto b (.cells cs'.toArray T' (0,0)))) (hc:PutC cs off vs cs') (hl:vs.length=s) (h1:LU vs=true)
    (k:Ops P ops l n E (Sym w0 M I0 I m') Q):Ops P ops (⟨none,.store T x y,ty,pos,af,none⟩ :: l) n E (Sym w0 M I0 I m) Q:=
  Ops.act rfl rfl (fun a w ho hs=>by
    obtain ⟨r,h2,h3⟩:=hA.del
    obtain ⟨w',hr,hs'⟩:=(hs.del h2).store (P:=P) hc h1
    refine ⟨w',?_,hs'.undel h3⟩
    simp [execOp,ho.eval hx,ho.eval hy,Instr.storeAt,Instr.sureAddr,storeVar,hS,Value.cells,hl,hr]) k
theorem Ops.store1 {b off:Nat} {cs cs':List Value} {v:Value} {T':TypeId} (hS:∀ w,(sizeOf T).run P w=.ok 1 w) (hx:ev E x=some (.pointer (some ⟨b,off,none⟩))) (hy:ev E y=some v)
    (hA:At m (pto b (.cells cs.toArray T' (0,0))) m' (pto b (.cells cs'.toArray T' (0,0)))) (hc:PutC cs off [v] cs') (h1:one v=true)
    (k:Ops P ops l n E (Sym w0 M I0 I m') Q):Ops P ops (⟨none,.store T x y,ty,pos,af,none⟩ :: l) n E (Sym w0 M I0 I m) Q:=
  Ops.act rfl rfl (fun a w ho hs=>by
    obtain ⟨r,h2,h3⟩:=hA.del
    obtain ⟨w',hr,hs'⟩:=(hs.del h2).store (P:=P) hc (by simp [LU,h1])
    refine ⟨w',?_,hs'.undel h3⟩
    have hc':v.cells = #[v]:=by cases v <;> first | rfl | cases h1
    simp [execOp,ho.eval hx,ho.eval hy,Instr.storeAt,Instr.sureAddr,storeVar,hS,hc',hr]) k
def ImC (I:IH) (b off:Nat) (cs:List Value):Prop:=∃ c t fz,I b=some (.cells c t fz)∧∀ j v,cs[j]? = some v→c[off+j]? = some v
theorem ImC.mono {I J:IH} {b off:Nat} {cs:List Value} (h:ImC I b off cs) (hle:I.le J):ImC J b off cs:=by
  obtain ⟨c,t,fz,h1,h2⟩:=h
  exact ⟨c,t,fz,hle _ _ h1,h2⟩
theorem ImC.cell {b off j:Nat} {cs:List Value} {v:Value} (h:ImC I b off cs) (hs:Sym w0 M I0 I m w) (hj:cs[j]? = some v):w.cell? ⟨b,off+j,none⟩=some v:=by
  obtain ⟨c,t,fz,h1,h2⟩:=h
  rw [MW (hs.imm _ _ h1)]
  exact h2 j v hj
theorem Ops.ld1 {b off o j:Nat} {cs:List Value} {v:Value} (hT:∀ w,(isAgg T).run P w=.ok false w) (hI:ImC I b off cs) (hx:ev E x=some (.pointer (some ⟨b,o,none⟩))) (ho:o=off+j) (hc:cs[j]? = some v)
    (hb:Nat.blt d n.sz=true) (hf:fresh E d=true) (k:Ops P ops l n ((d,v) :: E) (Sym w0 M I0 I m) Q) :
    Ops P ops (⟨some d,.load T x,ty,pos,af,none⟩ :: l) n E (Sym w0 M I0 I m) Q:=
  Ops.val rfl rfl (fun a w ha hs=>by
    subst ho
    simp [execOp,ha.eval hx,TY (P:=P) hT (hI.cell hs hc)]) hb hf k
theorem Ops.ldW {b off s:Nat} {cs:List Value} (hT:∀ w,(isAgg T).run P w=.ok true w) (hS:∀ w,(sizeOf T).run P w=.ok s w) (hI:ImC I b off cs) (hx:ev E x=some (.pointer (some ⟨b,off,none⟩)))
    (hl:cs.length=s) (hb:Nat.blt d n.sz=true) (hf:fresh E d=true) (k:Ops P ops l n ((d,.agg cs.toArray) :: E) (Sym w0 M I0 I m) Q) :
    Ops P ops (⟨some d,.load T x,ty,pos,af,none⟩ :: l) n E (Sym w0 M I0 I m) Q:=
  Ops.val rfl rfl (fun a w ha hs=>by
    simp [execOp,ha.eval hx,PE (P:=P) hT hS hl (fun i v hi=>hI.cell hs hi)]) hb hf k
theorem Ops.field1 {fs:Array Field} {i:Nat} {f:Field} {cs:List Value} {v:Value} {S:World→Prop} (hT:P.underlying T=some (.struct fs)) (hi:fs[i]? = some f) (hA:∀ w,(isAgg f.type).run P w=.ok false w)
    (hx:ev E x=some (.agg cs.toArray)) (hc:cs[f.offset]? = some v) (hb:Nat.blt d n.sz=true) (hf:fresh E d=true) (k:Ops P ops l n ((d,v) :: E) S Q) :
    Ops P ops (⟨some d,.field T x i,ty,pos,af,none⟩ :: l) n E S Q:=
  Ops.val rfl rfl (fun a w ha _=>by simp [execOp,ha.eval hx,Instr.field,run_underlying hT,hi,asAgg,part,hA,hc]) hb hf k
def cellsOf:Value→List Value
  | .agg cs=>cs.toList
  | v=>[v]
theorem RX (v:Value):v.cells=(cellsOf v).toArray:=by cases v <;> simp [Value.cells,cellsOf]
inductive gW (fs:Array Field) (E:DH):List Value→List (Nat×Operand)→List Value→Prop
  | n {z:List Value}:gW fs E z [] z
  | c {z z' cs vs:List Value} {i:Nat} {x:Operand} {r:List (Nat×Operand)} {f:Field} {v:Value} (hi:fs[i]? = some f) (hx:ev E x=some v) (hv:cellsOf v=vs) (hp:PutC z f.offset vs z') (k:gW fs E z' r cs) :
      gW fs E z ((i,x) :: r) cs
theorem aN:∀ (vs:List Value) (off j:Nat) (z:Array Value),off+j+vs.length≤z.size →
    ((vs.zipIdx j).foldl (fun cs (p:Value×Nat)=>cs.setIfInBounds (off+p.2) p.1) z)=(z.toList.take (off+j)++vs++z.toList.drop (off+j+vs.length)).toArray
  | [],off,j,z,_=>by simp
  | v :: vs,off,j,z,h=>by
    simp only [List.length_cons] at h
    rw [List.zipIdx_cons,List.foldl_cons,aN vs off (j+1) _ (by simp; omega)]
    congr 1
    have e:=list_seg_step z.toList (off+j) v vs (by simp; omega)
    simpa [Array.toList_setIfInBounds,Nat.add_assoc] using e
theorem Ae3 {fs:Array Field} {places:Array (Nat×Nat)} (hpl:∀ (i:Nat) (f:Field),fs[i]? = some f→∃ s,places[i]? = some (f.offset,s)) {ev':Operand→Value} :
    ∀ {z:List Value} {r:List (Nat×Operand)} {cs:List Value},gW fs E z r cs→(∀ x v,ev E x=some v→ev' x=v) →
      (∀ (i:Nat) (x:Operand) (f:Field) (s:Nat),(i,x)∈r→fs[i]? = some f→places[i]? = some (f.offset,s)→(cellsOf (ev' x)).length=s) →
      Instr.fill (places[·]?) z.toArray (r.map fun p=>(p.1,ev' p.2))=some cs.toArray:=by
  intro z r cs h
  induction h with
  | n=>intros; rfl
  | @c z z' cs vs i x r f v hi hx hv hp k ih=>
    intro he hs
    obtain ⟨s,hpi⟩:=hpl i f hi
    have hlen:=hs i x f s (by simp) hi hpi
    rw [he x v hx,hv] at hlen
    obtain ⟨hz',hle⟩:=hp.eq
    have e1:(ev' x).cells=vs.toArray:=by rw [he x v hx,RX,hv]
    simp only [List.map_cons,Instr.fill,hpi,e1]
    rw [if_neg (by simp; omega)]
    have e2:vs.toArray.zipIdx.foldl (fun cs (p:Value×Nat)=>cs.setIfInBounds (f.offset+p.2) p.1) z.toArray=z'.toArray:=by
      rw [←Array.foldl_toList,Array.toList_zipIdx]
      rw [aN vs f.offset 0 z.toArray (by simp; omega)]
      simp [hz']
    rw [e2]
    exact ih he (fun i x f s hm=>hs i x f s (List.mem_cons_of_mem _ hm))
def xI (P:Program) (E:DH) (fs:Array Field):List (Nat×Operand)→Prop
  | []=>True
  | p :: r=>(∃ f v,fs[p.1]? = some f∧ev E p.2=some v∧P.cellsOf f.type=(cellsOf v).length)∧xI P E fs r
theorem uW {fs:List Field}:∀ w,(∀ f∈fs,(P.info? f.type).isSome=true) →
    (fs.mapM fun f=>(do pure (f.offset,←sizeOf f.type):Sem (Nat×Nat))).run P w=.ok (fs.map fun f=>(f.offset,P.cellsOf f.type)) w:=by
  induction fs with
  | nil=>intro w _; rfl
  | cons f fs ih=>
    intro w h
    have h1:(sizeOf f.type).run P w=.ok (P.cellsOf f.type) w:=by
      obtain ⟨i,hi⟩:=Option.isSome_iff_exists.1 (h f (by simp))
      simp [sizeOf,typeInfo,hi,Program.cellsOf]
    rw [List.mapM_cons]
    simp only [Sem.run_bind,h1,Result.andThen_ok,Sem.run_pure,ih w (fun f hf=>h f (by simp [hf])),List.map_cons]
theorem qH {fs:Array Field} (h:∀ f∈fs.toList,(P.info? f.type).isSome=true) (w:World) :
    (fs.mapM fun f=>(do pure (f.offset,←sizeOf f.type):Sem (Nat×Nat))).run P w=.ok (fs.toList.map fun f=>(f.offset,P.cellsOf f.type)).toArray w:=by
  rw [Array.mapM_eq_mapM_toList]
  have:=uW (P:=P) w h
  simp only [Sem.run_map,this,Result.andThen_ok]
theorem Ops.build {S:World→Prop} {fs:Array Field} {z:List Value} {parts:List (Nat×Operand)} {cs:List Value} (hz:∀ w,(zeroValue T).run P w=.ok (.agg z.toArray) w) (hT:P.underlying T=some (.struct fs))
    (hI:(P.fieldsOf T).toList.all (fun f=>(P.info? f.type).isSome)=true) (hB:gW fs E z parts cs) (hS:xI P E fs parts) (hb:Nat.blt d n.sz=true) (hf:fresh E d=true) (k:Ops P ops l n ((d,.agg cs.toArray) :: E) S Q) :
    Ops P ops (⟨some d,.build T parts.toArray,ty,pos,af,none⟩ :: l) n E S Q:=
  Ops.val rfl rfl (fun a w ha _=>by
    have hfill:=Ae3 (places:=(fs.toList.map fun f=>(f.offset,P.cellsOf f.type)).toArray) (E:=E) (ev':=a.eval) (fun i f hi=>⟨P.cellsOf f.type,by
        have:fs.toList[i]? = some f:=by simpa using hi
        simp [this]⟩) hB (fun x v hx=>ha.eval hx) (fun i x f s hm hi hp=>by
        have hs:P.cellsOf f.type=s:=by
          have:fs.toList[i]? = some f:=by simpa using hi
          simp [hi] at hp; exact hp
        rw [←hs]
        clear hB k
        induction parts with
        | nil=>cases hm
        | cons p r ih=>
          obtain ⟨⟨f',v,h1,h2,h3⟩,h4⟩:=hS
          cases hm with
          | head=>rw [ha.eval h2]; rw [hi] at h1; cases h1; exact h3.symm
          | tail _ hm=>exact ih h4 hm)
    have hI':∀ f∈fs.toList,(P.info? f.type).isSome=true:=by
      have e0:P.fieldsOf T=fs:=by simp [Program.fieldsOf,hT]
      rw [e0] at hI; exact List.all_eq_true.1 hI
    simp only [execOp,Instr.build,Sem.run_bind,hz,Result.andThen_ok,run_underlying hT,Value.cells,qH hI']
    have e:(Array.map (fun (x:Nat×Operand)=>(x.1,a.eval x.2)) parts.toArray).toList=parts.map fun p=>(p.1,a.eval p.2):=by simp
    rw [show (Array.map (fun x=>match x with | (i,x)=>(i,a.eval x)) parts.toArray).toList=parts.map fun p=>(p.1,a.eval p.2) from e,hfill]
    simp) hb hf k
end Go.Fw
