import Derived.Test.YtbohadngdkjljaaGreatCubA
namespace Go.Proofs.YtbohadngdkjljaaGreat
open Go Go.Fw
set_option linter.unusedVariables false
set_option linter.unusedSimpArgs false
def XS (f:List Int) (k:Nat):List Int:=((List.range k).filter fun i:Nat=>MB f i).map fun i:Nat=>(i:Int)
theorem jZ (f:List Int) (k:Nat):XS f (k+1)=XS f k++if MB f k=true then [(k:Int)] else []:=by
  unfold XS
  rw [List.range_succ,List.filter_append,List.map_append]
  congr 1
  by_cases h:MB f k=true
  · rw [if_pos h]; simp [List.filter_cons,h]
  · rw [if_neg h]; simp [List.filter_cons,h]
theorem ZZ {f:List Int} {a:Nat}:∀ b,a≤b→(∀ m,a≤m→m<b→MB f m=false)→XS f b=XS f a
  | 0, h, _ => by have : a = 0 := by omega
                  rw [this]
  | b+1,h,hz=>by
    by_cases e:a=b+1
    · rw [e]
    · rw [jZ,hz b (by omega) (by omega),if_neg (by simp),List.append_nil]
      exact ZZ b (by omega) fun m h1 h2=>hz m h1 (by omega)
theorem Ab1 (f:List Int) (k:Nat):(XS f k).length≤k:=by
  unfold XS
  rw [List.length_map]
  have:=List.length_filter_le (fun i:Nat=>MB f i) (List.range k)
  rwa [List.length_range] at this
theorem ZG {f:List Int} {Q:List Int→Prop} (hf:yN f) (hl:f.length≤1000000) (hQ:Q (sG f)):IV f Q:=by
  unfold IV SQ IU FJ OH
  refine AW (s0:=(([]:List Int),(0:Nat))) (fun (s:List Int×Nat) i=>(s.1,i,s.2)) 0 f.length (by omega) (fun k s=>s.2=0∧s.1=XS f (64*k)) (by omega) ⟨rfl,rfl⟩ (fun k s next _ hk hs hn=>?_) (fun s next hs=>?_)
  · obtain ⟨s1,s2⟩:=s
    obtain ⟨h1,h2⟩:=hs
    simp only at h1 h2 ⊢
    subst h1
    have hb:=XK hf k
    refine AC (fun _=>FZ (by omega) (by omega) ?_) (fun h=>by omega)
    have esh:shl .i64 (k:Int) 6=64*(k:Int):=by
      show AH ((k:Int)*2 ^ 6)=_
      rw [AX (by omega) (by omega)]; omega
    rw [esh]
    refine EB (fun s:List Int×Int×Int×Nat=>∃ j:Nat,j≤64∧s.2.2.1=64*k+j∧s.2.1=EQ f k / 2 ^ j∧s.2.2.2=0∧s.1=XS f (64*k+j)) (fun s=>s.2.1.toNat) ⟨0,by omega,by simp,by simp,rfl,h2⟩ ?_
    rintro ⟨t1,w,at',t4⟩ nx ⟨j,hj,ha,hw,h4,h5⟩ hnx
    simp only at ha hw h4 h5 ⊢
    subst h4
    have hw0:0≤w∧w<18446744073709551616:=by
      rw [hw]
      have hp:(0:Int)<2 ^ j:=Int.pow_pos (by omega)
      exact ⟨Int.ediv_nonneg hb.1 (Int.le_of_lt hp),Int.lt_of_le_of_lt (Int.ediv_le_self _ hb.1) hb.2⟩
    have e1:AH (at'+1)=64*(k:Int)+((j+1:Nat):Int):=by rw [ha,AX (by omega) (by omega)]; omega
    refine FR (fun hne=>?_) (fun he=>?_)
    · have hj64:j<64:=by
        rcases Nat.lt_or_ge j 64 with h | h
        · exact h
        · have:j=64:=by omega
          subst this
          exfalso; apply hne; rw [hw]
          exact Int.ediv_eq_zero_of_lt hb.1 hb.2
      have hbit:=AcJ hf hj64 hw
      have ec:((64*k+j:Nat):Int)=64*(k:Int)+j:=by omega
      have hls:=jZ f (64*k+j)
      rw [ec] at hls
      rw [AeT hw0.1 hw0.2,AeU,e1]
      have hlen:=Ab1 f (64*k+j)
      refine CU (fun h1=>⟨rfl,BG (by subst h5; simp; omega) (AN rfl (hnx _ ⟨j+1,by omega,rfl,mK hw,rfl,?_⟩ (by simp only; omega)))⟩) (fun h1=>hnx _ ⟨j+1,by omega,rfl,mK hw,rfl,?_⟩ (by simp only; omega))
      · rw [show 64*k+(j+1)=64*k+j+1 by omega,hls,if_pos (hbit.2 h1),h5,ha]
      · rw [show 64*k+(j+1)=64*k+j+1 by omega,hls,if_neg (fun h=>h1 (hbit.1 h)),h5,List.append_nil]
    · refine hn (_,0) ⟨rfl,?_⟩
      show t1=_
      rw [h5,show 64*(k+1)=64*k+64 by omega]
      refine (ZZ _ (by omega) fun m h1 h2=>?_).symm
      obtain ⟨q,rfl⟩:∃ q,m=64*k+q:=⟨m - 64*k,by omega⟩
      have:=AaB hf (j:=j) (k:=q) (by omega) (by omega) hw he
      rw [show ((64*k+q:Nat):Int)=64*(k:Int)+q by omega]
      exact this
  · obtain ⟨s1,s2⟩:=s
    obtain ⟨h1,h2⟩:=hs
    simp only at h1 h2 ⊢
    subst h1
    refine AC (fun h=>by omega) (fun _=>⟨rfl,?_⟩)
    show Q s1
    rw [h2]; exact hQ
def UP (f g:List Int):List Int:=(List.range f.length).map fun i:Nat=>(((EQ f i).toNat &&& (EQ g i).toNat:Nat):Int)
theorem RU (f g:List Int):(UP f g).length=f.length:=by simp [UP]
theorem tU {f g:List Int} (i:Int) (h0:0≤i):EQ (UP f g) i=(((EQ f i).toNat &&& (EQ g i).toNat:Nat):Int):=by
  obtain ⟨k,rfl⟩:∃ k:Nat,i=k:=⟨i.toNat,by omega⟩
  by_cases h:k<f.length
  · have:EQ (UP f g) k=(UP f g)[k]'(by rw [RU]; exact h):=by simp [EQ,List.getD_eq_getElem?_getD,RU,h]
    rw [this]
    simp [UP]
  · rw [jD (by rw [RU]; omega),jD (f:=f) (by omega)]
    simp
theorem AdR {f g:List Int} (hf:yN f):yN (UP f g):=fun x hx=>by
  obtain ⟨i,_,rfl⟩:=List.mem_map.1 hx
  have h1:=XK hf i
  have h2:=Nat.and_le_left (n:=(EQ f i).toNat) (m:=(EQ g i).toNat)
  omega
theorem nF (f g:List Int) (j:Int):MB (UP f g) j=(MB f j && MB g j):=by
  unfold MB
  by_cases h:0≤j
  · rw [tU _ (by omega),Int.toNat_natCast,Nat.testBit_and]
    simp [h]
  · simp [h]
theorem lI {f g:List Int} {Q:List Int→Prop} (hf:yN f) (hg:yN g) (hl:f.length≤1000000) (hQ:Q (UP f g)):OI f g Q:=by
  unfold OI SR KN
  refine ⟨by omega,by omega,?_⟩
  have er:(List.replicate ((f.length:Int)).toNat (0:Int)).length=f.length:=by simp
  rw [er]
  refine AW (fun (s:List Int) i=>(s,i)) 0 f.length (by omega) (fun i s=>s.length=f.length∧∀ j:Nat,j<i→EQ s j=EQ (UP f g) j) (by omega) ⟨by simp,fun j h=>by omega⟩ (fun i s next _ hi hm hn=>?_) (fun s next hm=>?_)
  · obtain ⟨h1,h2⟩:=hm
    have b1:=XK hf i
    have b2:=XK hg i
    have key:∀ v:Int,v=fU .u64 (EQ f i) (EQ g i)→BA s (i:Int) fun _=>next ((s.set (i:Int).toNat v),AH ((i:Int)+1)):=fun v hv=>by
      refine AV (by omega) (hn _ ⟨by simp [h1],fun j hj=>?_⟩)
      unfold EQ at *
      rw [List.getD_eq_getElem?_getD,Int.toNat_natCast,Int.toNat_natCast]
      by_cases e:j=i
      · subst e
        rw [List.getElem?_set_self (by omega),hv,oU b1.1 b1.2 b2.1 b2.2]
        have:=tU (f:=f) (g:=g) (j:Int) (by omega)
        unfold EQ at this
        rw [show (UP f g).getD j 0=(UP f g).getD ((j:Int)).toNat 0 by rw [Int.toNat_natCast],this]; rfl
      · rw [List.getElem?_set_ne (by omega)]
        have:=h2 j (by omega)
        rw [List.getD_eq_getElem?_getD,Int.toNat_natCast] at this
        exact this
    refine AC (fun _=>?_) (fun h=>by omega)
    refine FH (fun v=>v=EQ f i) ?_ ?_
    · rintro v rfl
      refine AC (fun h=>FZ (by omega) (by omega) (key _ rfl)) (fun h=>key _ ?_)
      rw [jD (f:=g) (by omega)]
    · intro k hk
      refine AC (fun h=>FZ (by omega) (by omega) (hk _ rfl)) (fun h=>by omega)
  · obtain ⟨h1,h2⟩:=hm
    refine AC (fun h=>by omega) (fun _=>?_)
    have:s=UP f g:=by
      apply List.ext_getElem (by rw [h1,RU])
      intro k k1 k2
      have:=h2 k (by omega)
      unfold EQ at this
      simpa [List.getD_eq_getElem?_getD,k1,k2] using this
    show Q s
    rw [this]; exact hQ
def cP (e:AM):Bool:=decide (e.To<e.From)
def tV (g:AL):AL:=⟨g.N,FM (g.Edges.filter cP)⟩
theorem AdS {g:AL} {Q:AL→Prop} (hl:g.Edges.length≤1000000) (hv:∀ e∈g.Edges,FP e.W) (hQ:Q (tV g)):UG g Q:=by
  unfold UG SO NF
  refine AW (fun (s:List AM) i=>(s,i)) 0 g.Edges.length (by omega) (fun i s=>s=(g.Edges.take i).filter cP) (by omega) rfl (fun i s next _ hi hm hn=>?_) (fun s next hm=>?_)
  · subst hm
    have hL:=tQ (p:=cP) (xs:=g.Edges) (Nat.le_of_lt hi)
    refine AC (fun _=>AV hi ?_) (fun h=>by omega)
    have e:=nC (p:=cP) hi
    refine AC (fun h=>BG (by simp; omega) (hn _ ?_)) (fun h=>hn _ ?_)
    · rw [e,if_pos (by unfold cP; simpa using h)]
    · rw [e,if_neg (by unfold cP; simpa using h),List.append_nil]
  · subst hm
    refine AC (fun h=>by omega) (fun _=>?_)
    rw [List.take_length]
    exact NO (Nat.le_trans (List.length_filter_le _ _) hl) (fun e he=>hv e (List.mem_filter.1 he).1) hQ
def II (es:List AM) (a b:Int):Prop:=∃ e∈es,e.From=a∧e.To=b
theorem nG {r:Int} {k:EX}:∀ {ts:List (EX×Int)} {o:Option AP},(o≠none∨∃ t∈ts,k=t.1)→ts.foldl (fun o t=>if k=t.1 then some (match o with | some w=>GF r w (PX t.2) | none=>PX t.2) else o) o≠none
  | [],o,h=>by
    rcases h with h | ⟨t,ht,_⟩
    · exact h
    · simp at ht
  | t :: ts,o,h=>by
    rw [List.foldl_cons]
    refine nG ?_
    by_cases e:k=t.1
    · rw [if_pos e]; exact .inl (by simp)
    · rw [if_neg e]
      rcases h with h | ⟨x,hx,he⟩
      · exact .inl h
      · rcases List.mem_cons.1 hx with rfl | hx
        · exact absurd he e
        · exact .inr ⟨x,hx,he⟩
theorem mget_mem {κ α:Type} [DecidableEq κ] {k:κ}:∀ {l:List (κ×α)},BM k l≠none→∃ p∈l,p.1=k
  | [],h=>absurd rfl h
  | p :: l,h=>by
    by_cases e:k=p.1
    · exact ⟨p,by simp,e.symm⟩
    · have:BM k (p :: l)=BM k l:=by simp [BM,e]
      rw [this] at h
      obtain ⟨q,hq,hk⟩:=mget_mem h
      exact ⟨q,by simp [hq],hk⟩
theorem WO {es:List AM} (hv:∀ e∈es,FP e.W) {a b:Int}:II (FM es) a b↔II es a b:=by
  constructor
  · rintro ⟨e,he,h⟩; exact ⟨e,RS hv he,h⟩
  · rintro ⟨e,he,h1,h2⟩
    have hk:BM (a,b) (SC 1 (es.map oJ))≠none:=by
      rw [vW]
      exact nG (.inr ⟨oJ e,List.mem_map_of_mem he,by unfold oJ; rw [h1,h2]⟩)
    obtain ⟨p,hp,hpk⟩:=mget_mem hk
    unfold FM
    rw [bU (fun t ht=>by obtain ⟨x,hx,rfl⟩:=List.mem_map.1 ht; exact hv x hx)]
    refine ⟨mkE p.1 (KV p.2).1,List.mem_map.2 ⟨p,hp,rfl⟩,?_⟩
    rw [hpk]
    exact ⟨rfl,rfl⟩
def zC (g:AL) (a b:Int):Prop:=a≠b∧(II g.Edges a b∨II g.Edges b a)
def ES (g:AL):AL:=ZY (tV (XR g))
theorem tW {g:AL} (h:HV g.N g.Edges):HV (tV g).N (tV g).Edges∧(tV g).Edges.length≤g.Edges.length:=by
  have hf:HV g.N (g.Edges.filter cP):=fun e he=>h e (List.mem_filter.1 he).1
  refine ⟨PW hf,?_⟩
  have h1:=VU (ET hf)
  have h2:=List.length_filter_le cP g.Edges
  show (FM _).length≤_
  omega
theorem Ab2 {es:List AM} {a b:Int}:II (es.map ZC) a b↔II es b a:=by
  constructor
  · rintro ⟨e,he,h1,h2⟩
    obtain ⟨x,hx,rfl⟩:=List.mem_map.1 he
    exact ⟨x,hx,h2,h1⟩
  · rintro ⟨e,he,h1,h2⟩
    exact ⟨ZC e,List.mem_map_of_mem he,h2,h1⟩
theorem AdT {es:List AM} {a b:Int}:II (es.map wO) a b↔II es a b:=by
  constructor
  · rintro ⟨e,he,h1,h2⟩
    obtain ⟨x,hx,rfl⟩:=List.mem_map.1 he
    exact ⟨x,hx,h1,h2⟩
  · rintro ⟨e,he,h1,h2⟩
    exact ⟨wO e,List.mem_map_of_mem he,h1,h2⟩
theorem Ab3 {g:AL} (h:HV g.N g.Edges) {a b:Int}:II (XR g).Edges a b↔II g.Edges a b∨II g.Edges b a:=by
  have ht:HV g.N (ZF g).Edges:=PW (TF h)
  show II (FM (g.Edges++(ZF g).Edges)) a b↔_
  rw [WO (ET (nD h ht))]
  have:II (ZF g).Edges a b↔II g.Edges b a:=by
    show II (FM _) a b↔_
    rw [WO (ET (TF h)),Ab2]
  rw [←this]
  constructor
  · rintro ⟨e,he,h1⟩
    rcases List.mem_append.1 he with h2 | h2
    · exact .inl ⟨e,h2,h1⟩
    · exact .inr ⟨e,h2,h1⟩
  · rintro (⟨e,he,h1⟩ | ⟨e,he,h1⟩)
    · exact ⟨e,List.mem_append.2 (.inl he),h1⟩
    · exact ⟨e,List.mem_append.2 (.inr he),h1⟩
theorem pU {g:AL} {n:Nat} (hN:g.N=n) (h:HV g.N g.Edges):PlainP n (ES g)∧(ES g).Edges.length≤2*g.Edges.length∧∀ a b,II (ES g).Edges a b↔b<a∧zC g a b:=by
  have hb:=nE h
  have hl:=tW hb.1
  have hp:=jW hl.1
  refine ⟨AfL (g:=tV (XR g)) hN hl.1,by have:=hp.2.1; have:=hl.2; have:=hb.2.1; unfold ES; omega,fun a b=>?_⟩
  have e1:II (ES g).Edges a b↔II (tV (XR g)).Edges a b:=by
    show II (FM _) a b↔_
    rw [WO (ET (RT hl.1)),AdT]
  have e2:II (tV (XR g)).Edges a b↔II ((XR g).Edges.filter cP) a b:=WO fun e he=>ET hb.1 e (List.mem_filter.1 he).1
  rw [e1,e2]
  have hbe:=Ab3 h (a:=a) (b:=b)
  constructor
  · rintro ⟨e,he,h1,h2⟩
    obtain ⟨m1,m2⟩:=List.mem_filter.1 he
    have m2:=of_decide_eq_true m2
    rw [h1,h2] at m2
    exact ⟨m2,by omega,hbe.1 ⟨e,m1,h1,h2⟩⟩
  · rintro ⟨hlt,_,hn⟩
    obtain ⟨e,he,h1,h2⟩:=hbe.2 hn
    exact ⟨e,List.mem_filter.2 ⟨he,decide_eq_true (by omega)⟩,h1,h2⟩
theorem zD {g:AL} {Q:AL→Prop} (h:IZ g=0) (hQ:Q (ES g)):VK g Q:=by
  unfold VK
  obtain ⟨_,_,hl,_,_⟩:=ML h
  have hg:=TG h
  have hb:=nE hg
  have hlo:=tW hb.1
  exact AfJ (by omega) (ET hg) (AdS (by omega) (ET hb.1) (AdM (by omega) hQ))
def wT (a b:Int) (e:AM):Prop:=(e.From=a∧e.To=b)∨(e.From=b∧e.To=a)
instance (a b:Int) (e:AM):Decidable (wT a b e):=by unfold wT; infer_instance
def XT (g:AL) (a b:Int):Bool:=decide (a≠b) && g.Edges.any fun e=>decide (wT a b e)
theorem eJ {g:AL} {a b:Int}:XT g a b=true↔zC g a b:=by
  unfold XT zC II
  simp only [Bool.and_eq_true,decide_eq_true_eq,List.any_eq_true]
  constructor
  · rintro ⟨h,e,he,h1 | h1⟩
    · exact ⟨h,.inl ⟨e,he,h1⟩⟩
    · exact ⟨h,.inr ⟨e,he,h1⟩⟩
  · rintro ⟨h,⟨e,he,h1⟩ | ⟨e,he,h1⟩⟩
    · exact ⟨h,e,he,.inl h1⟩
    · exact ⟨h,e,he,.inr h1⟩
theorem kA (g:AL) (a b:Int):XT g a b=XT g b a:=by
  have:∀ x y,XT g x y=true→XT g y x=true:=fun x y h=>by
    rw [eJ] at *
    exact ⟨fun e=>h.1 e.symm,h.2.symm⟩
  cases h:XT g a b with
  | true=>exact (this _ _ h).symm
  | false=>
    cases h2:XT g b a with
    | false=>rfl
    | true=>rw [this _ _ h2] at h; cases h
abbrev T3:=Int×Int×Int
def CR (g:AL) (a b:Nat):Bool:=XT g a b
def tC (nr:Nat→Nat→Bool) (a b k:Nat):List T3:=((List.range k).filter fun c=>decide (b<c) && (nr a c && nr b c)).map fun c:Nat=>((a:Int),(b:Int),(c:Int))
def tB (nr:Nat→Nat→Bool) (n a k:Nat):List T3:=(List.range k).flatMap fun b=>if a<b∧nr a b=true then tC nr a b n else []
def gA (nr:Nat→Nat→Bool) (n k:Nat):List T3:=(List.range k).flatMap fun a=>tB nr n a n
abbrev OQ (nr:Nat→Nat→Bool) (n:Nat):List T3:=gA nr n n
variable {nr:Nat→Nat→Bool} {n:Nat}
theorem AfM (a k:Nat):tB nr n a (k+1)=tB nr n a k++if a<k∧nr a k=true then tC nr a k n else []:=by
  unfold tB
  rw [List.range_succ,List.flatMap_append]
  simp
theorem nH (k:Nat):gA nr n (k+1)=gA nr n k++tB nr n k n:=by
  unfold gA
  rw [List.range_succ,List.flatMap_append]
  simp
theorem AdU (a b k:Nat):(tC nr a b k).length≤k:=by
  unfold tC
  rw [List.length_map]
  have:=List.length_filter_le (fun c=>decide (b<c) && (nr a c && nr b c)) (List.range k)
  rwa [List.length_range] at this
theorem AdV (a:Nat):∀ k,(tB nr n a k).length≤k*n
  | 0=>by simp [tB]
  | k+1=>by
    rw [AfM,List.length_append,Nat.succ_mul]
    have h1:=AdV a k
    have h2:(if a<k∧nr a k=true then tC nr a k n else []).length≤n:=by
      split
      · exact AdU a k n
      · simp
    omega
theorem cQ:∀ k,(gA nr n k).length≤k*(n*n)
  | 0=>by simp [gA]
  | k+1=>by
    rw [nH,List.length_append,Nat.succ_mul]
    have h1:=cQ k
    have h2:=AdV (nr:=nr) (n:=n) k n
    omega
theorem pV (hn:n≤30) {k:Nat} (hk:k≤n):k*(n*n)≤27000∧k*n≤900∧n*n≤900:=by
  have h1:n*n≤30*30:=Nat.mul_le_mul hn hn
  have h2:k*(n*n)≤30*900:=Nat.mul_le_mul (by omega) (by omega)
  have h3:k*n≤30*30:=Nat.mul_le_mul (by omega) hn
  omega
def upP (E:List AM) (v i:Nat):List Int:=((E.take i).filter fun e=>decide (e.To=(v:Int))).map fun e=>e.From
theorem AdW {E:List AM} {v i:Nat} (h:i<E.length):upP E v (i+1)=upP E v i++if E[i].To=(v:Int) then [E[i].From] else []:=by
  unfold upP
  rw [nC h,List.map_append]
  congr 1
  by_cases e:E[i].To=(v:Int)
  · simp [e]
  · simp [e]
theorem zF (E:List AM) (v i:Nat) (h:i≤E.length):(upP E v i).length≤i:=by
  unfold upP
  rw [List.length_map]
  exact tQ h
def upF (E:List AM) (n v:Nat):List Int:=rY n (upP E v E.length)
def Ab4 (E:List AM) (n:Nat):List (List Int):=(List.range n).map (upF E n)
theorem Ah5 {g:AL} {Q:List (List Int)→Prop} (h:IZ g=0) (hN:g.N=n) (hn:n≤4096) (hQ:Q (Ab4 (ES g).Edges n)):YF g Q:=by
  unfold YF
  obtain ⟨_,_,hl,_,_⟩:=ML h
  obtain ⟨hP,hPl,_⟩:=pU hN (TG h)
  rw [hN]
  refine ⟨by omega,by omega,zD h ?_⟩
  generalize ES g=d at hP hPl hQ
  have hr:List.replicate ((n:Int)).toNat ([]:List Int)=List.replicate n []:=by simp
  rw [hr]
  refine AW (fun (s:List (List Int)) i=>(s,i)) 0 d.Edges.length (by omega) (fun i s=>s.length=n∧∀ v (hv:v<s.length),s[v]=upP d.Edges v i) (by omega) ⟨by simp,fun v hv=>by simp [upP]⟩ (fun i s next _ hi hm hx=>?_) (fun s next hm=>?_)
  · obtain ⟨h1,h2⟩:=hm
    have he:=(hP.good _ (List.getElem_mem hi)).1
    unfold uT at he
    rw [hP.N] at he
    obtain ⟨v,hv⟩:∃ v:Nat,d.Edges[i].To=v:=⟨d.Edges[i].To.toNat,by omega⟩
    refine BF (by simp; omega) (AV hi ?_)
    rw [hv]
    have hvs:v<s.length:=by omega
    have hul:=zF d.Edges v i (by omega)
    refine AV hvs (BG (by rw [h2 v hvs]; simp; omega) (AV hvs ?_))
    rw [Int.toNat_natCast]
    refine hx _ ⟨by simp [h1],fun u hu=>?_⟩
    rw [AdW hi,List.getElem_set]
    by_cases e:v=u
    · subst e
      rw [if_pos rfl,if_pos hv,h2 v hvs]
    · rw [if_neg e,if_neg (by rw [hv]; omega),List.append_nil]
      exact h2 u (by simpa using hu)
  · obtain ⟨h1,h2⟩:=hm
    refine AN (by simp) ?_
    refine AW (fun (o:List (List Int)) i=>(o,s,i)) 0 n (by omega) (fun i o=>o=(List.range i).map (upF d.Edges n)) (by omega) rfl (fun i o nx _ hi hm hy=>?_) (fun o nx hm=>?_)
    · subst hm
      have his:i<s.length:=by omega
      have hul:=zF d.Edges i d.Edges.length (Nat.le_refl _)
      refine BF (by simp; omega) (AV his (sF (by rw [h2 i his]; omega) (fun x hx=>?_) (BG (by simp; omega) (hy _ ?_))))
      · rw [h2 i his] at hx
        obtain ⟨e,he,rfl⟩:=List.mem_map.1 hx
        have:=(hP.good _ (List.mem_of_mem_take (List.mem_filter.1 he).1)).1
        unfold uT at this
        rw [hP.N] at this
        unfold FP; omega
      · rw [List.range_succ,List.map_append,h2 i his]; rfl
    · subst hm
      exact AN (by simp [h1]) hQ
theorem VV (E:List AM) (hn:n≤4096) (v:Nat):yN (upF E n v)∧(upF E n v).length=KW n∧∀ j,MB (upF E n v) j=true↔II E j v∧0≤j∧j<n:=by
  obtain ⟨h1,h2,h3⟩:=sE n (upP E v E.length)
  refine ⟨h1,h2,fun j=>?_⟩
  show MB (rY n _) j=true↔_
  rw [h3,decide_eq_true_eq]
  unfold upP II
  rw [List.take_length]
  constructor
  · rintro ⟨hm,h0,hj,_⟩
    obtain ⟨e,he,rfl⟩:=List.mem_map.1 hm
    obtain ⟨m1,m2⟩:=List.mem_filter.1 he
    exact ⟨⟨e,m1,rfl,of_decide_eq_true m2⟩,h0,hj⟩
  · rintro ⟨⟨e,he,e1,e2⟩,h0,hj⟩
    exact ⟨List.mem_map.2 ⟨e,List.mem_filter.2 ⟨he,decide_eq_true e2⟩,e1⟩,h0,hj,by omega⟩
variable {n:Nat} {g:AL}
theorem tX {f:List Int} {p:Nat→Bool} (hl:n≤64*f.length) (hp:∀ j:Nat,j<n→MB f j=p j) (hz:∀ j:Nat,n≤j→MB f j=false):sG f=((List.range n).filter p).map fun i:Nat=>(i:Int):=by
  have e:sG f=XS f (64*f.length):=rfl
  rw [e,ZZ _ hl fun m h1 _=>hz m h1]
  unfold XS
  congr 1
  refine List.filter_congr fun j hj=>?_
  exact hp j (List.mem_range.1 hj)
theorem zG (hn:n≤4096):n≤64*KW n:=by
  rcases Nat.eq_zero_or_pos n with h | h
  · omega
  · have:=jE (n:=n) (i:=((n - 1:Nat):Int)) (by omega) (by omega) (by omega)
    omega
def lA (nr:Nat→Nat→Bool) (n a:Nat):List Nat:=(List.range n).filter fun b=>decide (a<b) && nr a b
def lC (nr:Nat→Nat→Bool) (n a b:Nat):List Nat:=(List.range n).filter fun c=>decide (b<c) && (nr a c && nr b c)
structure zH (g:AL) (n:Nat) (E:List AM):Prop where
  ends:∀ a b:Int,II E a b↔b<a∧zC g a b
theorem wU {E:List AM} (hE:zH g n E) (hn:n≤4096) (a j:Nat) (hj:j<n):MB (upF E n a) j=(decide (a<j) && CR g a j):=by
  have h:=(VV E hn a).2.2 (j:Int)
  have h2:=hE.ends (j:Int) (a:Int)
  have h3:=eJ (g:=g) (a:=(j:Int)) (b:=(a:Int))
  have h4:=kA g (a:Int) (j:Int)
  cases hb:(decide (a<j) && CR g a j) with
  | true=>
    simp only [Bool.and_eq_true,decide_eq_true_eq] at hb
    refine h.2 ⟨h2.2 ⟨by omega,h3.1 ?_⟩,by omega,by omega⟩
    rw [←h4]; exact hb.2
  | false=>
    cases hc:MB (upF E n a) j with
    | false=>rfl
    | true=>
      obtain ⟨q1,q2⟩:=h2.1 (h.1 hc).1
      have:CR g a j=true:=by show XT g a j=true; rw [h4]; exact h3.2 q2
      rw [this,decide_eq_true (by omega)] at hb
      cases hb
theorem zI {E:List AM} (hn:n≤4096) (a j:Nat) (hj:n≤j):MB (upF E n a) j=false:=by
  cases hc:MB (upF E n a) j with
  | false=>rfl
  | true=>have:=((VV E hn a).2.2 (j:Int)).1 hc; omega
theorem Ah6 {E:List AM} (hE:zH g n E) (hn:n≤4096) (a:Nat):sG (upF E n a)=(lA (CR g) n a).map fun i:Nat=>(i:Int):=
  tX (by rw [(VV E hn a).2.1]; exact zG hn) (fun j hj=>wU hE hn a j hj) fun j hj=>zI hn a j hj
theorem Ah7 {E:List AM} (hE:zH g n E) (hn:n≤4096) {a b:Nat} (hab:a<b):sG (UP (upF E n a) (upF E n b))=(lC (CR g) n a b).map fun i:Nat=>(i:Int):=by
  refine tX (by rw [RU,(VV E hn a).2.1]; exact zG hn) (fun j hj=>?_) fun j hj=>by rw [nF,zI hn a j hj]; rfl
  rw [nF,wU hE hn a j hj,wU hE hn b j hj]
  by_cases h:b<j
  · rw [decide_eq_true h,decide_eq_true (by omega)]; simp
  · rw [decide_eq_false h]; simp
theorem Ai9 {nr:Nat→Nat→Bool} (a b:Nat):tC nr a b n=(lC nr n a b).map fun c:Nat=>((a:Int),(b:Int),(c:Int)):=rfl
theorem fN {α β:Type} (p:α→Bool) (f:α→List β):∀ l:List α,(l.filter p).flatMap f=l.flatMap fun x=>if p x=true then f x else []
  | []=>rfl
  | x :: l=>by
    rw [List.flatMap_cons,←fN p f l,List.filter_cons]
    cases h:p x with
    | true=>simp
    | false=>simp
theorem zJ {nr:Nat→Nat→Bool} (a:Nat):tB nr n a n=(lA nr n a).flatMap fun b=>tC nr a b n:=by
  unfold tB lA
  rw [fN]
  congr 1
  funext b
  simp only [Bool.and_eq_true,decide_eq_true_eq]
theorem Ab5 {α β:Type} {l:List α} {i:Nat} (h:i<l.length) (f:α→List β):(l.take (i+1)).flatMap f=(l.take i).flatMap f++f l[i]:=by
  rw [List.take_succ_eq_append_getElem h,List.flatMap_append]
  simp
theorem nI {α β:Type} {f:α→List β} {m:Nat}:∀ {l:List α},(∀ x∈l,(f x).length≤m)→(l.flatMap f).length≤l.length*m
  | [],_=>by simp
  | x :: l,h=>by
    rw [List.flatMap_cons,List.length_append,List.length_cons,Nat.succ_mul]
    have h1:=h x (by simp)
    have h2:=nI (l:=l) fun y hy=>h y (by simp [hy])
    omega
theorem Ah8 {nr:Nat→Nat→Bool} (a:Nat):(lA nr n a).length≤n:=by
  have:=List.length_filter_le (fun b=>decide (a<b) && nr a b) (List.range n)
  rwa [List.length_range] at this
theorem Ah9 {nr:Nat→Nat→Bool} (a b:Nat):(lC nr n a b).length≤n:=by
  have:=List.length_filter_le (fun c=>decide (b<c) && (nr a c && nr b c)) (List.range n)
  rwa [List.length_range] at this
def okT (n:Nat) (t:T3):Prop:=(0≤t.1∧t.1<n)∧(0≤t.2.1∧t.2.1<n)∧0≤t.2.2∧t.2.2<n
def AfN (σ:Type) (o0:Nat) (o1:σ) (o2:AL) (Y:Nat→σ→T3→((Bool×Nat×σ)→Prop)→Prop) (Q:(Nat×σ)→Prop):Prop:=
  GW o2 fun r26=>AQ (r26 != 0) (Q (o0,o1)) (YF o2 fun r41=>BD (fun (s:σ×Int×Nat) (next1667:(σ×Int×Nat)→Prop)=>match s with | (s1661,s1665,s1666)=>AQ (decide (s1665<(r41.length:Int))) (BA r41 s1665 fun x1686=>IV x1686 fun r1709=>BD (fun (s:σ×Int×Nat) (next2223:(σ×Int×Nat)→Prop)=>match s with | (s2217,s2221,s2222)=>AQ (decide (s2221<(r1709.length:Int))) (BA r1709 s2221 fun x2240=>BA r41 x2240 fun x2287=>OI x1686 x2287 fun r2298=>IV r2298 fun r2311=>BD (fun (s:σ×Int×Nat) (next2424:(σ×Int×Nat)→Prop)=>match s with | (s2418,s2422,s2423)=>AQ (decide (s2422<(r2311.length:Int))) (BA r2311 s2422 fun x2442=>Y s2423 s2418 (s1665,x2240,x2442) fun r2456=>AQ (!r2456.1) (Q (r2456.2.1,r2456.2.2)) (next2424 (r2456.2.2,AH (s2422+1),r2456.2.1))) (next2223 (s2418,AH (s2221+1),s2423))) (s2217,0,s2222)) (next1667 (s2217,AH (s1665+1),s2222))) (s1661,0,s1666)) (Q (s1666,s1661))) (o1,0,o0))
theorem zK {σ:Type} (h:IZ g=0) (hN:g.N=n) (hn:n≤30) (step:σ→T3→σ) (s0:σ) {Y:Nat→σ→T3→((Bool×Nat×σ)→Prop)→Prop} {Q:(Nat×σ)→Prop}
    (hY:∀ (pre:List T3) (t:T3),pre.length≤200000→okT n t→∀ Qy:(Bool×Nat×σ)→Prop,Qy (true,0,step (pre.foldl step s0) t)→Y 0 (pre.foldl step s0) t Qy)
    (hQ:Q (0,(OQ (CR g) n).foldl step s0)):AfN σ 0 s0 g Y Q:=by
  unfold AfN
  have hE:zH g n (ES g).Edges:=⟨(pU hN (TG h)).2.2⟩
  refine NK ?_
  rw [h]
  refine AN (by simp) (Ah5 h hN (by omega) ?_)
  generalize (ES g).Edges=E at hE
  have hUl:(Ab4 E n).length=n:=by simp [Ab4]
  have hU:∀ a (ha:a<(Ab4 E n).length),(Ab4 E n)[a]=upF E n a:=fun a ha=>by simp [Ab4]
  have hws:KW n≤64:=rX n
  refine AW (s0:=(s0,(0:Nat))) (fun (s:σ×Nat) i=>(s.1,i,s.2)) 0 n (by omega) (fun a s=>s.2=0∧s.1=(gA (CR g) n a).foldl step s0) (by omega) ⟨rfl,rfl⟩ (fun a s next _ ha hm hx=>?_) (fun s next hm=>?_)
  rotate_left
  · obtain ⟨s1,s2⟩:=s
    obtain ⟨h1,h2⟩:=hm
    simp only at h1 h2 ⊢
    subst h1 h2
    exact AN (by rw [hUl]; simp) hQ
  obtain ⟨s1,s2⟩:=s
  obtain ⟨h1,h2⟩:=hm
  simp only at h1 h2 ⊢
  subst h1 h2
  obtain ⟨f1,f2,_⟩:=VV E (n:=n) (by omega) a
  refine BF (by rw [hUl]; simp; omega) (AV (by omega) ?_)
  rw [hU]
  refine ZG f1 (by omega) ?_
  rw [Ah6 hE (by omega)]
  have hla:=Ah8 (nr:=CR g) (n:=n) a
  have hba:=pV hn (Nat.le_of_lt ha)
  have hta:=cQ (nr:=CR g) (n:=n) a
  refine AW (s0:=((gA (CR g) n a).foldl step s0,(0:Nat))) (fun (s:σ×Nat) i=>(s.1,i,s.2)) 0 (lA (CR g) n a).length (by omega) (fun i s=>s.2=0∧s.1=(gA (CR g) n a++((lA (CR g) n a).take i).flatMap fun b=>tC (CR g) a b n).foldl step s0) (by omega) ⟨rfl,by simp⟩ (fun i s next2 _ hi hm hy=>?_) (fun s next2 hm=>?_)
  rotate_left
  · obtain ⟨t1,t2⟩:=s
    obtain ⟨h1,h2⟩:=hm
    simp only at h1 h2 ⊢
    subst h1 h2
    refine AN (by simp) (hx (_,0) ⟨rfl,?_⟩)
    rw [List.take_length,←zJ,nH]
  obtain ⟨t1,t2⟩:=s
  obtain ⟨h1,h2⟩:=hm
  simp only at h1 h2 ⊢
  subst h1 h2
  have hbm:=List.getElem_mem hi
  obtain ⟨b,hb⟩:∃ b,b=(lA (CR g) n a)[i]:=⟨_,rfl⟩
  have hbm2:b∈lA (CR g) n a:=by rw [hb]; exact hbm
  unfold lA at hbm2
  rw [List.mem_filter,List.mem_range] at hbm2
  obtain ⟨hbn,hab⟩:=hbm2
  simp only [Bool.and_eq_true,decide_eq_true_eq] at hab
  have eb:((lA (CR g) n a).map fun i:Nat=>(i:Int))[i]'(by simpa using hi)=(b:Int):=by rw [List.getElem_map,hb]
  refine BF (by simp; omega) (AV (by simpa using hi) ?_)
  rw [eb]
  obtain ⟨f3,f4,_⟩:=VV E (n:=n) (by omega) b
  refine AV (by omega) ?_
  rw [hU]
  refine lI f1 f3 (by omega) (ZG (AdR f1) (by rw [RU]; omega) ?_)
  rw [Ah7 hE (by omega) hab.1]
  have hlc:=Ah9 (nr:=CR g) (n:=n) a b
  have hfl:(((lA (CR g) n a).take i).flatMap fun b=>tC (CR g) a b n).length≤900:=by
    have h1:=nI (m:=n) (l:=(lA (CR g) n a).take i) (f:=fun b=>tC (CR g) a b n) fun x _=>AdU a x n
    have h2:((lA (CR g) n a).take i).length*n≤30*30:=Nat.mul_le_mul (by rw [List.length_take]; omega) hn
    omega
  generalize hpre:gA (CR g) n a++((lA (CR g) n a).take i).flatMap (fun b=>tC (CR g) a b n)=pre at hy ⊢
  have hpl:pre.length≤27900:=by rw [←hpre,List.length_append]; omega
  refine AW (s0:=(pre.foldl step s0,(0:Nat))) (fun (s:σ×Nat) i=>(s.1,i,s.2)) 0 (lC (CR g) n a b).length (by omega) (fun j s=>s.2=0∧s.1=(pre++((lC (CR g) n a b).take j).map fun c:Nat=>((a:Int),(b:Int),(c:Int))).foldl step s0) (by omega) ⟨rfl,by simp⟩ (fun j s next3 _ hj hm hz=>?_) (fun s next3 hm=>?_)
  · obtain ⟨u1,u2⟩:=s
    obtain ⟨h1,h2⟩:=hm
    simp only at h1 h2 ⊢
    subst h1 h2
    obtain ⟨c,hc⟩:∃ c,c=(lC (CR g) n a b)[j]:=⟨_,rfl⟩
    have hcm:c∈lC (CR g) n a b:=by rw [hc]; exact List.getElem_mem hj
    unfold lC at hcm
    rw [List.mem_filter,List.mem_range] at hcm
    have ec:((lC (CR g) n a b).map fun i:Nat=>(i:Int))[j]'(by simpa using hj)=(c:Int):=by rw [List.getElem_map,hc]
    refine BF (by simp; omega) (AV (by simpa using hj) ?_)
    rw [ec]
    refine hY _ _ (by simp only [List.length_append,List.length_map,List.length_take]; omega) (show okT n ((a:Int),(b:Int),(c:Int)) from ⟨by simp only; omega,by simp only; omega,by simp only; omega⟩) _ ?_
    refine AN rfl (hz (_,0) ⟨rfl,?_⟩)
    show step _ _=_
    rw [List.take_succ_eq_append_getElem hj,List.map_append,←List.append_assoc,List.foldl_append (l:=pre++_),←hc]
    rfl
  · obtain ⟨u1,u2⟩:=s
    obtain ⟨h1,h2⟩:=hm
    simp only at h1 h2 ⊢
    subst h1 h2
    refine AN (by simp) (hy (_,0) ⟨rfl,?_⟩)
    show List.foldl step s0 _=_
    rw [List.take_length,Ab5 hi,←List.append_assoc,hpre,←hb,Ai9]
theorem aA {α:Type}:∀ (l acc:List α),l.foldl (fun s t=>s++[t]) acc=acc++l
  | [],acc=>by simp
  | x :: l,acc=>by rw [List.foldl_cons,aA l]; simp
theorem fO {Q:List T3→Prop} (h:IZ g=0) (hN:g.N=n) (hn:n≤30) (hQ:Q (OQ (CR g) n)):XI g Q:=by
  show AfN (List T3) 0 [] g (fun y s t Qy=>eqP y 0 (HN 24 s [t] fun _=>Qy (true,0,s++[t]))) (fun r=>eqP r.1 0 (Q r.2))
  refine zK h hN hn (fun s t=>s++[t]) [] (fun pre t hl ht Qy hq=>⟨rfl,BG ?_ hq⟩) ⟨rfl,?_⟩
  · rw [aA]; simp; omega
  · rw [aA]; exact hQ
def kB (y:List Int) (i:Int):List Int:=y.set i.toNat (AH (EQ y i+1))
def eK (y:List Int) (t:T3):List Int:=kB (kB (kB y t.1) t.2.1) t.2.2
theorem cR (y:List Int) (i:Int):(kB y i).length=y.length:=by simp [kB]
theorem tY (y:List Int) (t:T3):(eK y t).length=y.length:=by simp [eK,cR]
theorem tZ (l:List T3):∀ y:List Int,(l.foldl eK y).length=y.length:=by
  induction l with
  | nil=>intro y; rfl
  | cons t l ih=>intro y; rw [List.foldl_cons,ih,tY]
theorem wV {y:List Int} {i:Int} {K:Int→Prop} (h0:0≤i) (h1:i<y.length) (hK:K (EQ y i)):BA y i fun x=>BA y i fun _=>K x:=FZ h0 h1 (FZ h0 h1 hK)
def ofT (n:Nat) (l:List T3):List Int:=l.foldl eK (List.replicate n 0)
theorem nJ {Q:List Int→Prop} (h:IZ g=0) (hN:g.N=n) (hn:n≤30) (hQ:Q (ofT n (OQ (CR g) n))):dQ g Q:=by
  unfold dQ UH
  refine NK ?_
  rw [h,hN]
  refine AN (by simp) ⟨by omega,by omega,?_⟩
  have hr:List.replicate ((n:Int)).toNat (0:Int)=List.replicate n 0:=by simp
  rw [hr]
  suffices key:AfN (List Int) 0 (List.replicate n 0) g (fun (y120:Nat) (y121:List Int) (x127:T3) (Qy:(Bool×Nat×(List Int))→Prop)=>eqP y120 0 (BA y121 x127.1 fun x131=>BA y121 x127.1 fun x136=>BA (y121.set x127.1.toNat (AH (x131+1))) x127.2.1 fun x139=>BA (y121.set x127.1.toNat (AH (x131+1))) x127.2.1 fun x142=>BA ((y121.set x127.1.toNat (AH (x131+1))).set x127.2.1.toNat (AH (x139+1))) x127.2.2 fun x145=>BA ((y121.set x127.1.toNat (AH (x131+1))).set x127.2.1.toNat (AH (x139+1))) x127.2.2 fun x148=>Qy (true,0,(((y121.set x127.1.toNat (AH (x131+1))).set x127.2.1.toNat (AH (x139+1))).set x127.2.2.toNat (AH (x145+1)))))) (fun r=>eqP r.1 0 (Q r.2)) from key
  refine zK h hN hn eK (List.replicate n 0) (fun pre t hl ht Qy hq=>⟨rfl,?_⟩) ⟨rfl,hQ⟩
  have hlen:(pre.foldl eK (List.replicate n 0)).length=n:=by rw [tZ]; simp
  generalize pre.foldl eK (List.replicate n 0)=y at hlen hq
  obtain ⟨⟨a0,a1⟩,⟨b0,b1⟩,c0,c1⟩:=ht
  refine wV a0 (by omega) (wV b0 (by simp; omega) (wV c0 (by simp; omega) ?_))
  exact hq
theorem zL {nr:Nat→Nat→Bool} {t:T3} (ht:t∈OQ nr n):∃ a b c:Nat,t=((a:Int),(b:Int),(c:Int))∧(a<b∧b<c∧c<n)∧nr a b=true∧nr a c=true∧nr b c=true:=by
  obtain ⟨a,ha,ht⟩:=List.mem_flatMap.1 ht
  rw [zJ] at ht
  obtain ⟨b,hb,ht⟩:=List.mem_flatMap.1 ht
  obtain ⟨c,hc,rfl⟩:=List.mem_map.1 ht
  unfold lA at hb
  rw [List.mem_filter,List.mem_range] at hb hc
  simp only [Bool.and_eq_true,decide_eq_true_eq] at hb hc
  exact ⟨a,b,c,rfl,⟨hb.2.1,hc.2.1,hc.1⟩,hb.2.2,hc.2.2.1,hc.2.2.2⟩
theorem AdX {nr:Nat→Nat→Bool} {t:T3} (ht:t∈OQ nr n):okT n t:=by
  obtain ⟨a,b,c,rfl,h,_⟩:=zL ht
  exact ⟨by simp only; omega,by simp only; omega,by simp only; omega⟩
theorem Ab6 {l:List Int} {Q:Bool→Prop} (hl:l.length≤1000000) (hQ:Q true):NB l l Q:=by
  unfold NB
  refine AN (by simp) (EC l.length (by omega) (fun _=>True) trivial (fun i next hi _ hn=>BF (by simp; omega) (AV hi (AV hi (AN (by simp) (hn trivial))))) fun next _=>AN (by simp) hQ)
theorem AfO {l:List T3} {Q:Bool→Prop} (hl:l.length≤1000000) (hQ:Q true):W7 l l Q:=by
  unfold W7
  refine AN (by simp) (EC l.length (by omega) (fun _=>True) trivial (fun i next hi _ hn=>BF (by simp; omega) (AV hi (AV hi (AN (by simp) (hn trivial))))) fun next _=>AN (by simp) hQ)
end Go.Proofs.YtbohadngdkjljaaGreat
