import Derived.Test.YtbohadngdkjljaaGreatCubA
namespace Go.Proofs.YtbohadngdkjljaaGreat
open Go Go.Fw
set_option linter.unusedVariables false
set_option linter.unusedSimpArgs false
def XT (f:List Int) (k:Nat):List Int:=((List.range k).filter fun i:Nat=>MC f i).map fun i:Nat=>(i:Int)
theorem kH (f:List Int) (k:Nat):XT f (k+1)=XT f k++if MC f k=true then [(k:Int)] else []:=by
  unfold XT
  rw [List.range_succ,List.filter_append,List.map_append]
  congr 1
  by_cases h:MC f k=true
  · rw [if_pos h]; simp [List.filter_cons,h]
  · rw [if_neg h]; simp [List.filter_cons,h]
theorem aB {f:List Int} {a:Nat}:∀ b,a≤b→(∀ m,a≤m→m<b→MC f m=false)→XT f b=XT f a
  | 0, h, _ => by have : a = 0 := by omega
                  rw [this]
  | b+1,h,hz=>by
    by_cases e:a=b+1
    · rw [e]
    · rw [kH,hz b (by omega) (by omega),if_neg (by simp),List.append_nil]
      exact aB b (by omega) fun m h1 h2=>hz m h1 (by omega)
theorem Ab0 (f:List Int) (k:Nat):(XT f k).length≤k:=by
  unfold XT
  rw [List.length_map]
  have:=List.length_filter_le (fun i:Nat=>MC f i) (List.range k)
  rwa [List.length_range] at this
theorem ZH {f:List Int} {Q:List Int→Prop} (hf:yQ f) (hl:f.length≤1000000) (hQ:Q (sL f)):IW f Q:=by
  unfold IW SS IV FL ON
  refine AV (s0:=(([]:List Int),(0:Nat))) (fun (s:List Int×Nat) i=>(s.1,i,s.2)) 0 f.length (by omega) (fun k s=>s.2=0∧s.1=XT f (64*k)) (by omega) ⟨rfl,rfl⟩ (fun k s next _ hk hs hn=>?_) (fun s next hs=>?_)
  · obtain ⟨s1,s2⟩:=s
    obtain ⟨h1,h2⟩:=hs
    simp only at h1 h2 ⊢
    subst h1
    have hb:=XL hf k
    refine AB (fun _=>GB (by omega) (by omega) ?_) (fun h=>by omega)
    have esh:shl .i64 (k:Int) 6=64*(k:Int):=by
      show AH ((k:Int)*2 ^ 6)=_
      rw [AY (by omega) (by omega)]; omega
    rw [esh]
    refine EC (fun s:List Int×Int×Int×Nat=>∃ j:Nat,j≤64∧s.2.2.1=64*k+j∧s.2.1=ES f k / 2 ^ j∧s.2.2.2=0∧s.1=XT f (64*k+j)) (fun s=>s.2.1.toNat) ⟨0,by omega,by simp,by simp,rfl,h2⟩ ?_
    rintro ⟨t1,w,at',t4⟩ nx ⟨j,hj,ha,hw,h4,h5⟩ hnx
    simp only at ha hw h4 h5 ⊢
    subst h4
    have hw0:0≤w∧w<18446744073709551616:=by
      rw [hw]
      have hp:(0:Int)<2 ^ j:=Int.pow_pos (by omega)
      exact ⟨Int.ediv_nonneg hb.1 (Int.le_of_lt hp),Int.lt_of_le_of_lt (Int.ediv_le_self _ hb.1) hb.2⟩
    have e1:AH (at'+1)=64*(k:Int)+((j+1:Nat):Int):=by rw [ha,AY (by omega) (by omega)]; omega
    refine FJ (fun hne=>?_) (fun he=>?_)
    · have hj64:j<64:=by
        rcases Nat.lt_or_ge j 64 with h | h
        · exact h
        · have:j=64:=by omega
          subst this
          exfalso; apply hne; rw [hw]
          exact Int.ediv_eq_zero_of_lt hb.1 hb.2
      have hbit:=AcI hf hj64 hw
      have ec:((64*k+j:Nat):Int)=64*(k:Int)+j:=by omega
      have hls:=kH f (64*k+j)
      rw [ec] at hls
      rw [AeT hw0.1 hw0.2,AeU,e1]
      have hlen:=Ab0 f (64*k+j)
      refine CO (fun h1=>⟨rfl,BE (by subst h5; simp; omega) (AN rfl (hnx _ ⟨j+1,by omega,rfl,mR hw,rfl,?_⟩ (by simp only; omega)))⟩) (fun h1=>hnx _ ⟨j+1,by omega,rfl,mR hw,rfl,?_⟩ (by simp only; omega))
      · rw [show 64*k+(j+1)=64*k+j+1 by omega,hls,if_pos (hbit.2 h1),h5,ha]
      · rw [show 64*k+(j+1)=64*k+j+1 by omega,hls,if_neg (fun h=>h1 (hbit.1 h)),h5,List.append_nil]
    · refine hn (_,0) ⟨rfl,?_⟩
      show t1=_
      rw [h5,show 64*(k+1)=64*k+64 by omega]
      refine (aB _ (by omega) fun m h1 h2=>?_).symm
      obtain ⟨q,rfl⟩:∃ q,m=64*k+q:=⟨m - 64*k,by omega⟩
      have:=AaA hf (j:=j) (k:=q) (by omega) (by omega) hw he
      rw [show ((64*k+q:Nat):Int)=64*(k:Int)+q by omega]
      exact this
  · obtain ⟨s1,s2⟩:=s
    obtain ⟨h1,h2⟩:=hs
    simp only at h1 h2 ⊢
    subst h1
    refine AB (fun h=>by omega) (fun _=>⟨rfl,?_⟩)
    show Q s1
    rw [h2]; exact hQ
def UQ (f g:List Int):List Int:=(List.range f.length).map fun i:Nat=>(((ES f i).toNat &&& (ES g i).toNat:Nat):Int)
theorem RW (f g:List Int):(UQ f g).length=f.length:=by simp [UQ]
theorem tZ {f g:List Int} (i:Int) (h0:0≤i):ES (UQ f g) i=(((ES f i).toNat &&& (ES g i).toNat:Nat):Int):=by
  obtain ⟨k,rfl⟩:∃ k:Nat,i=k:=⟨i.toNat,by omega⟩
  by_cases h:k<f.length
  · have:ES (UQ f g) k=(UQ f g)[k]'(by rw [RW]; exact h):=by simp [ES,List.getD_eq_getElem?_getD,RW,h]
    rw [this]
    simp [UQ]
  · rw [jL (by rw [RW]; omega),jL (f:=f) (by omega)]
    simp
theorem AdQ {f g:List Int} (hf:yQ f):yQ (UQ f g):=fun x hx=>by
  obtain ⟨i,_,rfl⟩:=List.mem_map.1 hx
  have h1:=XL hf i
  have h2:=Nat.and_le_left (n:=(ES f i).toNat) (m:=(ES g i).toNat)
  omega
theorem nL (f g:List Int) (j:Int):MC (UQ f g) j=(MC f j && MC g j):=by
  unfold MC
  by_cases h:0≤j
  · rw [tZ _ (by omega),Int.toNat_natCast,Nat.testBit_and]
    simp [h]
  · simp [h]
theorem lL {f g:List Int} {Q:List Int→Prop} (hf:yQ f) (hg:yQ g) (hl:f.length≤1000000) (hQ:Q (UQ f g)):OO f g Q:=by
  unfold OO ST KO
  refine ⟨by omega,by omega,?_⟩
  have er:(List.replicate ((f.length:Int)).toNat (0:Int)).length=f.length:=by simp
  rw [er]
  refine AV (fun (s:List Int) i=>(s,i)) 0 f.length (by omega) (fun i s=>s.length=f.length∧∀ j:Nat,j<i→ES s j=ES (UQ f g) j) (by omega) ⟨by simp,fun j h=>by omega⟩ (fun i s next _ hi hm hn=>?_) (fun s next hm=>?_)
  · obtain ⟨h1,h2⟩:=hm
    have b1:=XL hf i
    have b2:=XL hg i
    have key:∀ v:Int,v=fY .u64 (ES f i) (ES g i)→BD s (i:Int) fun _=>next ((s.set (i:Int).toNat v),AH ((i:Int)+1)):=fun v hv=>by
      refine BI (by omega) (hn _ ⟨by simp [h1],fun j hj=>?_⟩)
      unfold ES at *
      rw [List.getD_eq_getElem?_getD,Int.toNat_natCast,Int.toNat_natCast]
      by_cases e:j=i
      · subst e
        rw [List.getElem?_set_self (by omega),hv,oY b1.1 b1.2 b2.1 b2.2]
        have:=tZ (f:=f) (g:=g) (j:Int) (by omega)
        unfold ES at this
        rw [show (UQ f g).getD j 0=(UQ f g).getD ((j:Int)).toNat 0 by rw [Int.toNat_natCast],this]; rfl
      · rw [List.getElem?_set_ne (by omega)]
        have:=h2 j (by omega)
        rw [List.getD_eq_getElem?_getD,Int.toNat_natCast] at this
        exact this
    refine AB (fun _=>?_) (fun h=>by omega)
    refine FI (fun v=>v=ES f i) ?_ ?_
    · rintro v rfl
      refine AB (fun h=>GB (by omega) (by omega) (key _ rfl)) (fun h=>key _ ?_)
      rw [jL (f:=g) (by omega)]
    · intro k hk
      refine AB (fun h=>GB (by omega) (by omega) (hk _ rfl)) (fun h=>by omega)
  · obtain ⟨h1,h2⟩:=hm
    refine AB (fun h=>by omega) (fun _=>?_)
    have:s=UQ f g:=by
      apply List.ext_getElem (by rw [h1,RW])
      intro k k1 k2
      have:=h2 k (by omega)
      unfold ES at this
      simpa [List.getD_eq_getElem?_getD,k1,k2] using this
    show Q s
    rw [this]; exact hQ
def cU (e:AM):Bool:=decide (e.To<e.From)
def uA (g:AL):AL:=⟨g.N,FP (g.Edges.filter cU)⟩
theorem AdR {g:AL} {Q:AL→Prop} (hl:g.Edges.length≤1000000) (hv:∀ e∈g.Edges,FS e.W) (hQ:Q (uA g)):UH g Q:=by
  unfold UH SQ NF
  refine AV (fun (s:List AM) i=>(s,i)) 0 g.Edges.length (by omega) (fun i s=>s=(g.Edges.take i).filter cU) (by omega) rfl (fun i s next _ hi hm hn=>?_) (fun s next hm=>?_)
  · subst hm
    have hL:=tV (p:=cU) (xs:=g.Edges) (Nat.le_of_lt hi)
    refine AB (fun _=>BI hi ?_) (fun h=>by omega)
    have e:=nI (p:=cU) hi
    refine AB (fun h=>BE (by simp; omega) (hn _ ?_)) (fun h=>hn _ ?_)
    · rw [e,if_pos (by unfold cU; simpa using h)]
    · rw [e,if_neg (by unfold cU; simpa using h),List.append_nil]
  · subst hm
    refine AB (fun h=>by omega) (fun _=>?_)
    rw [List.take_length]
    exact NO (Nat.le_trans (List.length_filter_le _ _) hl) (fun e he=>hv e (List.mem_filter.1 he).1) hQ
def IJ (es:List AM) (a b:Int):Prop:=∃ e∈es,e.From=a∧e.To=b
theorem nM {r:Int} {k:EX}:∀ {ts:List (EX×Int)} {o:Option AQ},(o≠none∨∃ t∈ts,k=t.1)→ts.foldl (fun o t=>if k=t.1 then some (match o with | some w=>GG r w (QA t.2) | none=>QA t.2) else o) o≠none
  | [],o,h=>by
    rcases h with h | ⟨t,ht,_⟩
    · exact h
    · simp at ht
  | t :: ts,o,h=>by
    rw [List.foldl_cons]
    refine nM ?_
    by_cases e:k=t.1
    · rw [if_pos e]; exact .inl (by simp)
    · rw [if_neg e]
      rcases h with h | ⟨x,hx,he⟩
      · exact .inl h
      · rcases List.mem_cons.1 hx with rfl | hx
        · exact absurd he e
        · exact .inr ⟨x,hx,he⟩
theorem mget_mem {κ α:Type} [DecidableEq κ] {k:κ}:∀ {l:List (κ×α)},BM k l≠none→∃ p∈l,p.1=k
  | [],h=>absurd rfl h
  | p :: l,h=>by
    by_cases e:k=p.1
    · exact ⟨p,by simp,e.symm⟩
    · have:BM k (p :: l)=BM k l:=by simp [BM,e]
      rw [this] at h
      obtain ⟨q,hq,hk⟩:=mget_mem h
      exact ⟨q,by simp [hq],hk⟩
theorem WP {es:List AM} (hv:∀ e∈es,FS e.W) {a b:Int}:IJ (FP es) a b↔IJ es a b:=by
  constructor
  · rintro ⟨e,he,h⟩; exact ⟨e,RU hv he,h⟩
  · rintro ⟨e,he,h1,h2⟩
    have hk:BM (a,b) (SC 1 (es.map oN))≠none:=by
      rw [vX]
      exact nM (.inr ⟨oN e,List.mem_map_of_mem he,by unfold oN; rw [h1,h2]⟩)
    obtain ⟨p,hp,hpk⟩:=mget_mem hk
    unfold FP
    rw [bZ (fun t ht=>by obtain ⟨x,hx,rfl⟩:=List.mem_map.1 ht; exact hv x hx)]
    refine ⟨mkE p.1 (KW p.2).1,List.mem_map.2 ⟨p,hp,rfl⟩,?_⟩
    rw [hpk]
    exact ⟨rfl,rfl⟩
def zG (g:AL) (a b:Int):Prop:=a≠b∧(IJ g.Edges a b∨IJ g.Edges b a)
def ER (g:AL):AL:=aA (uA (XS g))
theorem uB {g:AL} (h:HW g.N g.Edges):HW (uA g).N (uA g).Edges∧(uA g).Edges.length≤g.Edges.length:=by
  have hf:HW g.N (g.Edges.filter cU):=fun e he=>h e (List.mem_filter.1 he).1
  refine ⟨PZ hf,?_⟩
  have h1:=VT (ET hf)
  have h2:=List.length_filter_le cU g.Edges
  show (FP _).length≤_
  omega
theorem Ab1 {es:List AM} {a b:Int}:IJ (es.map ZD) a b↔IJ es b a:=by
  constructor
  · rintro ⟨e,he,h1,h2⟩
    obtain ⟨x,hx,rfl⟩:=List.mem_map.1 he
    exact ⟨x,hx,h2,h1⟩
  · rintro ⟨e,he,h1,h2⟩
    exact ⟨ZD e,List.mem_map_of_mem he,h2,h1⟩
theorem AdS {es:List AM} {a b:Int}:IJ (es.map wP) a b↔IJ es a b:=by
  constructor
  · rintro ⟨e,he,h1,h2⟩
    obtain ⟨x,hx,rfl⟩:=List.mem_map.1 he
    exact ⟨x,hx,h1,h2⟩
  · rintro ⟨e,he,h1,h2⟩
    exact ⟨wP e,List.mem_map_of_mem he,h1,h2⟩
theorem Ab2 {g:AL} (h:HW g.N g.Edges) {a b:Int}:IJ (XS g).Edges a b↔IJ g.Edges a b∨IJ g.Edges b a:=by
  have ht:HW g.N (ZG g).Edges:=PZ (TG h)
  show IJ (FP (g.Edges++(ZG g).Edges)) a b↔_
  rw [WP (ET (nJ h ht))]
  have:IJ (ZG g).Edges a b↔IJ g.Edges b a:=by
    show IJ (FP _) a b↔_
    rw [WP (ET (TG h)),Ab1]
  rw [←this]
  constructor
  · rintro ⟨e,he,h1⟩
    rcases List.mem_append.1 he with h2 | h2
    · exact .inl ⟨e,h2,h1⟩
    · exact .inr ⟨e,h2,h1⟩
  · rintro (⟨e,he,h1⟩ | ⟨e,he,h1⟩)
    · exact ⟨e,List.mem_append.2 (.inl he),h1⟩
    · exact ⟨e,List.mem_append.2 (.inr he),h1⟩
theorem pY {g:AL} {n:Nat} (hN:g.N=n) (h:HW g.N g.Edges):PlainP n (ER g)∧(ER g).Edges.length≤2*g.Edges.length∧∀ a b,IJ (ER g).Edges a b↔b<a∧zG g a b:=by
  have hb:=nK h
  have hl:=uB hb.1
  have hp:=kE hl.1
  refine ⟨AfL (g:=uA (XS g)) hN hl.1,by have:=hp.2.1; have:=hl.2; have:=hb.2.1; unfold ER; omega,fun a b=>?_⟩
  have e1:IJ (ER g).Edges a b↔IJ (uA (XS g)).Edges a b:=by
    show IJ (FP _) a b↔_
    rw [WP (ET (RV hl.1)),AdS]
  have e2:IJ (uA (XS g)).Edges a b↔IJ ((XS g).Edges.filter cU) a b:=WP fun e he=>ET hb.1 e (List.mem_filter.1 he).1
  rw [e1,e2]
  have hbe:=Ab2 h (a:=a) (b:=b)
  constructor
  · rintro ⟨e,he,h1,h2⟩
    obtain ⟨m1,m2⟩:=List.mem_filter.1 he
    have m2:=of_decide_eq_true m2
    rw [h1,h2] at m2
    exact ⟨m2,by omega,hbe.1 ⟨e,m1,h1,h2⟩⟩
  · rintro ⟨hlt,_,hn⟩
    obtain ⟨e,he,h1,h2⟩:=hbe.2 hn
    exact ⟨e,List.mem_filter.2 ⟨he,decide_eq_true (by omega)⟩,h1,h2⟩
theorem zH {g:AL} {Q:AL→Prop} (h:GN g=0) (hQ:Q (ER g)):VL g Q:=by
  unfold VL
  obtain ⟨_,_,hl,_,_⟩:=KH h
  have hg:=TH h
  have hb:=nK hg
  have hlo:=uB hb.1
  exact AfJ (by omega) (ET hg) (AdR (by omega) (ET hb.1) (AdL (by omega) hQ))
def eN (a b:Int) (e:AM):Prop:=(e.From=a∧e.To=b)∨(e.From=b∧e.To=a)
instance (a b:Int) (e:AM):Decidable (eN a b e):=by unfold eN; infer_instance
def NP (g:AL) (a b:Int):Bool:=decide (a≠b) && g.Edges.any fun e=>decide (eN a b e)
theorem eO {g:AL} {a b:Int}:NP g a b=true↔zG g a b:=by
  unfold NP zG IJ
  simp only [Bool.and_eq_true,decide_eq_true_eq,List.any_eq_true]
  constructor
  · rintro ⟨h,e,he,h1 | h1⟩
    · exact ⟨h,.inl ⟨e,he,h1⟩⟩
    · exact ⟨h,.inr ⟨e,he,h1⟩⟩
  · rintro ⟨h,⟨e,he,h1⟩ | ⟨e,he,h1⟩⟩
    · exact ⟨h,e,he,.inl h1⟩
    · exact ⟨h,e,he,.inr h1⟩
theorem kI (g:AL) (a b:Int):NP g a b=NP g b a:=by
  have:∀ x y,NP g x y=true→NP g y x=true:=fun x y h=>by
    rw [eO] at *
    exact ⟨fun e=>h.1 e.symm,h.2.symm⟩
  cases h:NP g a b with
  | true=>exact (this _ _ h).symm
  | false=>
    cases h2:NP g b a with
    | false=>rfl
    | true=>rw [this _ _ h2] at h; cases h
theorem XU {g:AL} {a b:Int} {Q:Bool→Prop} (hl:g.Edges.length≤1000000) (hQ:Q (NP g a b)):OM g a b Q:=by
  unfold OM
  have hyes:∀ {i:Nat} (hi:i<g.Edges.length),a≠b→eN a b g.Edges[i]→Q true:=fun {i} hi hab hm=>by
    have:NP g a b=true:=by
      unfold NP
      rw [decide_eq_true hab,Bool.true_and,List.any_eq_true]
      exact ⟨_,List.getElem_mem hi,decide_eq_true hm⟩
    rwa [this] at hQ
  refine DL g.Edges.length (by omega) (fun i=>a≠b→∀ j (hj:j<g.Edges.length),j<i→¬eN a b g.Edges[j]) (fun _ j _ h=>by omega) (fun i next hi hr hn=>?_) (fun next hr=>?_)
  · have go:(a≠b→¬eN a b g.Edges[i])→next (AH ((i:Int)+1)):=fun h=>hn fun hab j hj hji=>by
      by_cases e:j=i
      · subst e; exact h hab
      · exact hr hab j hj (by omega)
    refine AZ (by simp; omega) (BI hi (FJ (fun hab=>?_) (fun hab=>go fun h=>absurd hab h)))
    have hX:¬(g.Edges[i].From=a∧g.Edges[i].To=b)→AP (g.Edges[i].From==b) (AP (g.Edges[i].To==a) (Q true) (next (AH ((i:Int)+1)))) (next (AH ((i:Int)+1))):=fun h=>by
      refine CO (fun h1=>CO (fun h2=>hyes hi hab (.inr ⟨h1,h2⟩)) (fun h2=>go fun _ hm=>?_)) (fun h1=>go fun _ hm=>?_)
      · rcases hm with hm | hm
        · exact h hm
        · exact h2 hm.2
      · rcases hm with hm | hm
        · exact h hm
        · exact h1 hm.1
    exact CO (fun h1=>CO (fun h2=>hyes hi hab (.inl ⟨h1,h2⟩)) (fun h2=>hX fun h=>h2 h.2)) (fun h1=>hX fun h=>h1 h.1)
  · refine AN (by simp) ?_
    have:NP g a b=false:=by
      unfold NP
      by_cases hab:a=b
      · simp [hab]
      · rw [decide_eq_true hab,Bool.true_and,List.any_eq_false]
        intro e he
        obtain ⟨j,hj,rfl⟩:=List.getElem_of_mem he
        simpa using hr hab j hj hj
    rwa [this] at hQ
abbrev T3:=Int×Int×Int
def CI (g:AL) (a b:Nat):Bool:=NP g a b
def tC (nr:Nat→Nat→Bool) (a b k:Nat):List T3:=((List.range k).filter fun c=>decide (b<c) && (nr a c && nr b c)).map fun c:Nat=>((a:Int),(b:Int),(c:Int))
def tB (nr:Nat→Nat→Bool) (n a k:Nat):List T3:=(List.range k).flatMap fun b=>if a<b∧nr a b=true then tC nr a b n else []
def aC (nr:Nat→Nat→Bool) (n k:Nat):List T3:=(List.range k).flatMap fun a=>tB nr n a n
abbrev lM (nr:Nat→Nat→Bool) (n:Nat):List T3:=aC nr n n
variable {nr:Nat→Nat→Bool} {n:Nat}
theorem AfM (a b k:Nat):tC nr a b (k+1)=tC nr a b k++if b<k∧nr a k=true∧nr b k=true then [((a:Int),(b:Int),(k:Int))] else []:=by
  unfold tC
  rw [List.range_succ,List.filter_append,List.map_append]
  congr 1
  by_cases h:b<k∧nr a k=true∧nr b k=true
  · rw [if_pos h]; simp [List.filter_cons,h]
  · rw [if_neg h]
    have:(decide (b<k) && (nr a k && nr b k))=false:=by
      cases e:(decide (b<k) && (nr a k && nr b k)) with
      | false=>rfl
      | true=>simp only [Bool.and_eq_true,decide_eq_true_eq] at e; exact absurd e h
    simp [List.filter_cons,this]
theorem Ah5 {a b k:Nat} (h:k≤b+1):tC nr a b k=[]:=by
  unfold tC
  rw [List.filter_eq_nil_iff.2]
  · rfl
  · intro c hc
    rw [List.mem_range] at hc
    simp; omega
theorem pZ (a k:Nat):tB nr n a (k+1)=tB nr n a k++if a<k∧nr a k=true then tC nr a k n else []:=by
  unfold tB
  rw [List.range_succ,List.flatMap_append]
  simp
theorem Ah6 {a k:Nat} (h:k≤a+1):tB nr n a k=[]:=by
  unfold tB
  rw [List.flatMap_eq_nil_iff]
  intro b hb
  rw [List.mem_range] at hb
  rw [if_neg (by omega)]
theorem eP (k:Nat):aC nr n (k+1)=aC nr n k++tB nr n k n:=by
  unfold aC
  rw [List.range_succ,List.flatMap_append]
  simp
theorem wU (a b k:Nat):(tC nr a b k).length≤k:=by
  unfold tC
  rw [List.length_map]
  have:=List.length_filter_le (fun c=>decide (b<c) && (nr a c && nr b c)) (List.range k)
  rwa [List.length_range] at this
theorem wV (a:Nat):∀ k,(tB nr n a k).length≤k*n
  | 0=>by simp [tB]
  | k+1=>by
    rw [pZ,List.length_append,Nat.succ_mul]
    have h1:=wV a k
    have h2:(if a<k∧nr a k=true then tC nr a k n else []).length≤n:=by
      split
      · exact wU a k n
      · simp
    omega
theorem cV:∀ k,(aC nr n k).length≤k*(n*n)
  | 0=>by simp [aC]
  | k+1=>by
    rw [eP,List.length_append,Nat.succ_mul]
    have h1:=cV k
    have h2:=wV (nr:=nr) (n:=n) k n
    omega
theorem hG (hn:n≤30) {k:Nat} (hk:k≤n):k*(n*n)≤27000∧k*n≤900∧n*n≤900:=by
  have h1:n*n≤30*30:=Nat.mul_le_mul hn hn
  have h2:k*(n*n)≤30*900:=Nat.mul_le_mul (by omega) (by omega)
  have h3:k*n≤30*30:=Nat.mul_le_mul (by omega) hn
  omega
theorem uC {g:AL} {Q:List T3→Prop} (h:GN g=0) (hN:g.N=n) (hn:n≤30) (hQ:Q (lM (CI g) n)):W7 g Q:=by
  unfold W7
  refine ZV ?_
  obtain ⟨_,_,hl,_,_⟩:=KH h
  rw [h,hN]
  refine AN (by simp) ?_
  have hw:∀ i:Nat,i≤100→AH ((i:Int)+1)=((i+1:Nat):Int):=fun i hi=>by rw [AY (by omega) (by omega)]; omega
  refine AV (fun (s:List T3) i=>(s,i)) 0 n (by omega) (fun a s=>s=aC (CI g) n a) (by omega) rfl (fun a s next _ ha hm hx=>?_) (fun s next hm=>AN (by simp) (by subst hm; exact hQ))
  subst hm
  refine AZ (by simp; omega) ?_
  dsimp only
  rw [hw a (by omega)]
  have hba:=hG hn (Nat.le_of_lt ha)
  have hla:=cV (nr:=CI g) (n:=n) a
  refine AV (fun (s:List T3) i=>(s,i)) (a+1) n (by omega) (fun b s=>s=aC (CI g) n a++tB (CI g) n a b) (by omega) (by rw [Ah6 (by omega),List.append_nil]) (fun b s next2 hab hb hm hy=>?_) (fun s next2 hm=>AN (by simp) ?_)
  rotate_left
  · subst hm
    rw [hw a (by omega)] at hx
    exact hx _ (eP a).symm
  subst hm
  refine AZ (by simp; omega) ?_
  dsimp only
  rw [hw b (by omega)]
  have hbb:=hG hn (Nat.le_of_lt hb)
  have hlb:=wV (nr:=CI g) (n:=n) a b
  refine AV (fun (s:List T3) i=>(s,i)) (b+1) n (by omega) (fun c s=>s=aC (CI g) n a++tB (CI g) n a b++if CI g a b=true then tC (CI g) a b c else []) (by omega) (by rw [Ah5 (by omega)]; simp) (fun c s next3 hbc hc hm hz=>?_) (fun s next3 hm=>AN (by simp) ?_)
  · subst hm
    refine AZ (by simp; omega) (XU (by omega) ?_)
    have hstep:=AfM (nr:=CI g) a b c
    have hlc:=wU (nr:=CI g) a b c
    cases hab2:NP g a b with
    | false=>
      refine AN rfl ?_
      rw [hw b (by omega)] at hy
      refine hy _ ?_
      rw [pZ,if_neg (by unfold CI; rw [hab2]; simp),if_neg (by unfold CI; rw [hab2]; simp)]
      simp
    | true=>
      have hnn:CI g a b=true:=hab2
      rw [if_pos hnn]
      refine AZ rfl (XU (by omega) ?_)
      have no:¬(b<c∧CI g a c=true∧CI g b c=true)→next3 (aC (CI g) n a++tB (CI g) n a b++tC (CI g) a b c,AH ((c:Int)+1)):=fun hno=>by
        refine hz _ ?_
        rw [if_pos hnn,hstep,if_neg hno,List.append_nil]
      cases hac:NP g a c with
      | false=>exact AN rfl (no fun h=>by have:=h.2.1; unfold CI at this; rw [hac] at this; cases this)
      | true=>
        refine AZ rfl (XU (by omega) ?_)
        cases hbc2:NP g b c with
        | false=>exact AN rfl (no fun h=>by have:=h.2.2; unfold CI at this; rw [hbc2] at this; cases this)
        | true=>
          refine AZ rfl (BE (by simp only [List.length_append,List.length_singleton]; omega) (hz _ ?_))
          rw [if_pos hnn,hstep,if_pos ⟨by omega,hac,hbc2⟩,List.append_assoc]
  · subst hm
    rw [hw b (by omega)] at hy
    refine hy _ ?_
    rw [pZ]
    by_cases hnn:CI g a b=true
    · rw [if_pos hnn,if_pos ⟨by omega,hnn⟩,List.append_assoc]
    · rw [if_neg hnn,if_neg fun h=>hnn h.2,List.append_assoc]
def upP (E:List AM) (v i:Nat):List Int:=((E.take i).filter fun e=>decide (e.To=(v:Int))).map fun e=>e.From
theorem AdT {E:List AM} {v i:Nat} (h:i<E.length):upP E v (i+1)=upP E v i++if E[i].To=(v:Int) then [E[i].From] else []:=by
  unfold upP
  rw [nI h,List.map_append]
  congr 1
  by_cases e:E[i].To=(v:Int)
  · simp [e]
  · simp [e]
theorem zI (E:List AM) (v i:Nat) (h:i≤E.length):(upP E v i).length≤i:=by
  unfold upP
  rw [List.length_map]
  exact tV h
def upF (E:List AM) (n v:Nat):List Int:=sH n (upP E v E.length)
def Ab3 (E:List AM) (n:Nat):List (List Int):=(List.range n).map (upF E n)
theorem Ah7 {g:AL} {Q:List (List Int)→Prop} (h:GN g=0) (hN:g.N=n) (hn:n≤4096) (hQ:Q (Ab3 (ER g).Edges n)):YG g Q:=by
  unfold YG
  obtain ⟨_,_,hl,_,_⟩:=KH h
  obtain ⟨hP,hPl,_⟩:=pY hN (TH h)
  rw [hN]
  refine ⟨by omega,by omega,zH h ?_⟩
  generalize ER g=d at hP hPl hQ
  have hr:List.replicate ((n:Int)).toNat ([]:List Int)=List.replicate n []:=by simp
  rw [hr]
  refine AV (fun (s:List (List Int)) i=>(s,i)) 0 d.Edges.length (by omega) (fun i s=>s.length=n∧∀ v (hv:v<s.length),s[v]=upP d.Edges v i) (by omega) ⟨by simp,fun v hv=>by simp [upP]⟩ (fun i s next _ hi hm hx=>?_) (fun s next hm=>?_)
  · obtain ⟨h1,h2⟩:=hm
    have he:=(hP.good _ (List.getElem_mem hi)).1
    unfold gW at he
    rw [hP.N] at he
    obtain ⟨v,hv⟩:∃ v:Nat,d.Edges[i].To=v:=⟨d.Edges[i].To.toNat,by omega⟩
    refine AZ (by simp; omega) (BI hi ?_)
    rw [hv]
    have hvs:v<s.length:=by omega
    have hul:=zI d.Edges v i (by omega)
    refine BI hvs (BE (by rw [h2 v hvs]; simp; omega) (BI hvs ?_))
    rw [Int.toNat_natCast]
    refine hx _ ⟨by simp [h1],fun u hu=>?_⟩
    rw [AdT hi,List.getElem_set]
    by_cases e:v=u
    · subst e
      rw [if_pos rfl,if_pos hv,h2 v hvs]
    · rw [if_neg e,if_neg (by rw [hv]; omega),List.append_nil]
      exact h2 u (by simpa using hu)
  · obtain ⟨h1,h2⟩:=hm
    refine AN (by simp) ?_
    refine AV (fun (o:List (List Int)) i=>(o,s,i)) 0 n (by omega) (fun i o=>o=(List.range i).map (upF d.Edges n)) (by omega) rfl (fun i o nx _ hi hm hy=>?_) (fun o nx hm=>?_)
    · subst hm
      have his:i<s.length:=by omega
      have hul:=zI d.Edges i d.Edges.length (Nat.le_refl _)
      refine AZ (by simp; omega) (BI his (sK (by rw [h2 i his]; omega) (fun x hx=>?_) (BE (by simp; omega) (hy _ ?_))))
      · rw [h2 i his] at hx
        obtain ⟨e,he,rfl⟩:=List.mem_map.1 hx
        have:=(hP.good _ (List.mem_of_mem_take (List.mem_filter.1 he).1)).1
        unfold gW at this
        rw [hP.N] at this
        unfold FS; omega
      · rw [List.range_succ,List.map_append,h2 i his]; rfl
    · subst hm
      exact AN (by simp [h1]) hQ
theorem VU (E:List AM) (hn:n≤4096) (v:Nat):yQ (upF E n v)∧(upF E n v).length=KX n∧∀ j,MC (upF E n v) j=true↔IJ E j v∧0≤j∧j<n:=by
  obtain ⟨h1,h2,h3⟩:=sJ n (upP E v E.length)
  refine ⟨h1,h2,fun j=>?_⟩
  show MC (sH n _) j=true↔_
  rw [h3,decide_eq_true_eq]
  unfold upP IJ
  rw [List.take_length]
  constructor
  · rintro ⟨hm,h0,hj,_⟩
    obtain ⟨e,he,rfl⟩:=List.mem_map.1 hm
    obtain ⟨m1,m2⟩:=List.mem_filter.1 he
    exact ⟨⟨e,m1,rfl,of_decide_eq_true m2⟩,h0,hj⟩
  · rintro ⟨⟨e,he,e1,e2⟩,h0,hj⟩
    exact ⟨List.mem_map.2 ⟨e,List.mem_filter.2 ⟨he,decide_eq_true e2⟩,e1⟩,h0,hj,by omega⟩
variable {n:Nat} {g:AL}
theorem uD {f:List Int} {p:Nat→Bool} (hl:n≤64*f.length) (hp:∀ j:Nat,j<n→MC f j=p j) (hz:∀ j:Nat,n≤j→MC f j=false):sL f=((List.range n).filter p).map fun i:Nat=>(i:Int):=by
  have e:sL f=XT f (64*f.length):=rfl
  rw [e,aB _ hl fun m h1 _=>hz m h1]
  unfold XT
  congr 1
  refine List.filter_congr fun j hj=>?_
  exact hp j (List.mem_range.1 hj)
theorem zJ (hn:n≤4096):n≤64*KX n:=by
  rcases Nat.eq_zero_or_pos n with h | h
  · omega
  · have:=jM (n:=n) (i:=((n - 1:Nat):Int)) (by omega) (by omega) (by omega)
    omega
def lA (nr:Nat→Nat→Bool) (n a:Nat):List Nat:=(List.range n).filter fun b=>decide (a<b) && nr a b
def lC (nr:Nat→Nat→Bool) (n a b:Nat):List Nat:=(List.range n).filter fun c=>decide (b<c) && (nr a c && nr b c)
structure zK (g:AL) (n:Nat) (E:List AM):Prop where
  ends:∀ a b:Int,IJ E a b↔b<a∧zG g a b
theorem wW {E:List AM} (hE:zK g n E) (hn:n≤4096) (a j:Nat) (hj:j<n):MC (upF E n a) j=(decide (a<j) && CI g a j):=by
  have h:=(VU E hn a).2.2 (j:Int)
  have h2:=hE.ends (j:Int) (a:Int)
  have h3:=eO (g:=g) (a:=(j:Int)) (b:=(a:Int))
  have h4:=kI g (a:Int) (j:Int)
  cases hb:(decide (a<j) && CI g a j) with
  | true=>
    simp only [Bool.and_eq_true,decide_eq_true_eq] at hb
    refine h.2 ⟨h2.2 ⟨by omega,h3.1 ?_⟩,by omega,by omega⟩
    rw [←h4]; exact hb.2
  | false=>
    cases hc:MC (upF E n a) j with
    | false=>rfl
    | true=>
      obtain ⟨q1,q2⟩:=h2.1 (h.1 hc).1
      have:CI g a j=true:=by show NP g a j=true; rw [h4]; exact h3.2 q2
      rw [this,decide_eq_true (by omega)] at hb
      cases hb
theorem zL {E:List AM} (hn:n≤4096) (a j:Nat) (hj:n≤j):MC (upF E n a) j=false:=by
  cases hc:MC (upF E n a) j with
  | false=>rfl
  | true=>have:=((VU E hn a).2.2 (j:Int)).1 hc; omega
theorem Ah8 {E:List AM} (hE:zK g n E) (hn:n≤4096) (a:Nat):sL (upF E n a)=(lA (CI g) n a).map fun i:Nat=>(i:Int):=
  uD (by rw [(VU E hn a).2.1]; exact zJ hn) (fun j hj=>wW hE hn a j hj) fun j hj=>zL hn a j hj
theorem Ah9 {E:List AM} (hE:zK g n E) (hn:n≤4096) {a b:Nat} (hab:a<b):sL (UQ (upF E n a) (upF E n b))=(lC (CI g) n a b).map fun i:Nat=>(i:Int):=by
  refine uD (by rw [RW,(VU E hn a).2.1]; exact zJ hn) (fun j hj=>?_) fun j hj=>by rw [nL,zL hn a j hj]; rfl
  rw [nL,wW hE hn a j hj,wW hE hn b j hj]
  by_cases h:b<j
  · rw [decide_eq_true h,decide_eq_true (by omega)]; simp
  · rw [decide_eq_false h]; simp
theorem AiD {nr:Nat→Nat→Bool} (a b:Nat):tC nr a b n=(lC nr n a b).map fun c:Nat=>((a:Int),(b:Int),(c:Int)):=rfl
theorem fS {α β:Type} (p:α→Bool) (f:α→List β):∀ l:List α,(l.filter p).flatMap f=l.flatMap fun x=>if p x=true then f x else []
  | []=>rfl
  | x :: l=>by
    rw [List.flatMap_cons,←fS p f l,List.filter_cons]
    cases h:p x with
    | true=>simp
    | false=>simp
theorem AiE {nr:Nat→Nat→Bool} (a:Nat):tB nr n a n=(lA nr n a).flatMap fun b=>tC nr a b n:=by
  unfold tB lA
  rw [fS]
  congr 1
  funext b
  simp only [Bool.and_eq_true,decide_eq_true_eq]
theorem Ab4 {α β:Type} {l:List α} {i:Nat} (h:i<l.length) (f:α→List β):(l.take (i+1)).flatMap f=(l.take i).flatMap f++f l[i]:=by
  rw [List.take_succ_eq_append_getElem h,List.flatMap_append]
  simp
theorem nN {α β:Type} {f:α→List β} {m:Nat}:∀ {l:List α},(∀ x∈l,(f x).length≤m)→(l.flatMap f).length≤l.length*m
  | [],_=>by simp
  | x :: l,h=>by
    rw [List.flatMap_cons,List.length_append,List.length_cons,Nat.succ_mul]
    have h1:=h x (by simp)
    have h2:=nN (l:=l) fun y hy=>h y (by simp [hy])
    omega
theorem AhA {nr:Nat→Nat→Bool} (a:Nat):(lA nr n a).length≤n:=by
  have:=List.length_filter_le (fun b=>decide (a<b) && nr a b) (List.range n)
  rwa [List.length_range] at this
theorem AhB {nr:Nat→Nat→Bool} (a b:Nat):(lC nr n a b).length≤n:=by
  have:=List.length_filter_le (fun c=>decide (b<c) && (nr a c && nr b c)) (List.range n)
  rwa [List.length_range] at this
def okT (n:Nat) (t:T3):Prop:=(0≤t.1∧t.1<n)∧(0≤t.2.1∧t.2.1<n)∧0≤t.2.2∧t.2.2<n
def AfN (σ:Type) (o0:Nat) (o1:σ) (o2:AL) (Y:Nat→σ→T3→((Bool×Nat×σ)→Prop)→Prop) (Q:(Nat×σ)→Prop):Prop:=
  GX o2 fun r26=>AP (r26 != 0) (Q (o0,o1)) (YG o2 fun r41=>BB (fun (s:σ×Int×Nat) (next1667:(σ×Int×Nat)→Prop)=>match s with | (s1661,s1665,s1666)=>AP (decide (s1665<(r41.length:Int))) (BD r41 s1665 fun x1686=>IW x1686 fun r1709=>BB (fun (s:σ×Int×Nat) (next2223:(σ×Int×Nat)→Prop)=>match s with | (s2217,s2221,s2222)=>AP (decide (s2221<(r1709.length:Int))) (BD r1709 s2221 fun x2240=>BD r41 x2240 fun x2287=>OO x1686 x2287 fun r2298=>IW r2298 fun r2311=>BB (fun (s:σ×Int×Nat) (next2424:(σ×Int×Nat)→Prop)=>match s with | (s2418,s2422,s2423)=>AP (decide (s2422<(r2311.length:Int))) (BD r2311 s2422 fun x2442=>Y s2423 s2418 (s1665,x2240,x2442) fun r2456=>AP (!r2456.1) (Q (r2456.2.1,r2456.2.2)) (next2424 (r2456.2.2,AH (s2422+1),r2456.2.1))) (next2223 (s2418,AH (s2221+1),s2423))) (s2217,0,s2222)) (next1667 (s2217,AH (s1665+1),s2222))) (s1661,0,s1666)) (Q (s1666,s1661))) (o1,0,o0))
theorem zM {σ:Type} (h:GN g=0) (hN:g.N=n) (hn:n≤30) (step:σ→T3→σ) (s0:σ) {Y:Nat→σ→T3→((Bool×Nat×σ)→Prop)→Prop} {Q:(Nat×σ)→Prop}
    (hY:∀ (pre:List T3) (t:T3),pre.length≤200000→okT n t→∀ Qy:(Bool×Nat×σ)→Prop,Qy (true,0,step (pre.foldl step s0) t)→Y 0 (pre.foldl step s0) t Qy)
    (hQ:Q (0,(lM (CI g) n).foldl step s0)):AfN σ 0 s0 g Y Q:=by
  unfold AfN
  have hE:zK g n (ER g).Edges:=⟨(pY hN (TH h)).2.2⟩
  refine NK ?_
  rw [h]
  refine AN (by simp) (Ah7 h hN (by omega) ?_)
  generalize (ER g).Edges=E at hE
  have hUl:(Ab3 E n).length=n:=by simp [Ab3]
  have hU:∀ a (ha:a<(Ab3 E n).length),(Ab3 E n)[a]=upF E n a:=fun a ha=>by simp [Ab3]
  have hws:KX n≤64:=sG n
  refine AV (s0:=(s0,(0:Nat))) (fun (s:σ×Nat) i=>(s.1,i,s.2)) 0 n (by omega) (fun a s=>s.2=0∧s.1=(aC (CI g) n a).foldl step s0) (by omega) ⟨rfl,rfl⟩ (fun a s next _ ha hm hx=>?_) (fun s next hm=>?_)
  rotate_left
  · obtain ⟨s1,s2⟩:=s
    obtain ⟨h1,h2⟩:=hm
    simp only at h1 h2 ⊢
    subst h1 h2
    exact AN (by rw [hUl]; simp) hQ
  obtain ⟨s1,s2⟩:=s
  obtain ⟨h1,h2⟩:=hm
  simp only at h1 h2 ⊢
  subst h1 h2
  obtain ⟨f1,f2,_⟩:=VU E (n:=n) (by omega) a
  refine AZ (by rw [hUl]; simp; omega) (BI (by omega) ?_)
  rw [hU]
  refine ZH f1 (by omega) ?_
  rw [Ah8 hE (by omega)]
  have hla:=AhA (nr:=CI g) (n:=n) a
  have hba:=hG hn (Nat.le_of_lt ha)
  have hta:=cV (nr:=CI g) (n:=n) a
  refine AV (s0:=((aC (CI g) n a).foldl step s0,(0:Nat))) (fun (s:σ×Nat) i=>(s.1,i,s.2)) 0 (lA (CI g) n a).length (by omega) (fun i s=>s.2=0∧s.1=(aC (CI g) n a++((lA (CI g) n a).take i).flatMap fun b=>tC (CI g) a b n).foldl step s0) (by omega) ⟨rfl,by simp⟩ (fun i s next2 _ hi hm hy=>?_) (fun s next2 hm=>?_)
  rotate_left
  · obtain ⟨t1,t2⟩:=s
    obtain ⟨h1,h2⟩:=hm
    simp only at h1 h2 ⊢
    subst h1 h2
    refine AN (by simp) (hx (_,0) ⟨rfl,?_⟩)
    rw [List.take_length,←AiE,eP]
  obtain ⟨t1,t2⟩:=s
  obtain ⟨h1,h2⟩:=hm
  simp only at h1 h2 ⊢
  subst h1 h2
  have hbm:=List.getElem_mem hi
  obtain ⟨b,hb⟩:∃ b,b=(lA (CI g) n a)[i]:=⟨_,rfl⟩
  have hbm2:b∈lA (CI g) n a:=by rw [hb]; exact hbm
  unfold lA at hbm2
  rw [List.mem_filter,List.mem_range] at hbm2
  obtain ⟨hbn,hab⟩:=hbm2
  simp only [Bool.and_eq_true,decide_eq_true_eq] at hab
  have eb:((lA (CI g) n a).map fun i:Nat=>(i:Int))[i]'(by simpa using hi)=(b:Int):=by rw [List.getElem_map,hb]
  refine AZ (by simp; omega) (BI (by simpa using hi) ?_)
  rw [eb]
  obtain ⟨f3,f4,_⟩:=VU E (n:=n) (by omega) b
  refine BI (by omega) ?_
  rw [hU]
  refine lL f1 f3 (by omega) (ZH (AdQ f1) (by rw [RW]; omega) ?_)
  rw [Ah9 hE (by omega) hab.1]
  have hlc:=AhB (nr:=CI g) (n:=n) a b
  have hfl:(((lA (CI g) n a).take i).flatMap fun b=>tC (CI g) a b n).length≤900:=by
    have h1:=nN (m:=n) (l:=(lA (CI g) n a).take i) (f:=fun b=>tC (CI g) a b n) fun x _=>wU a x n
    have h2:((lA (CI g) n a).take i).length*n≤30*30:=Nat.mul_le_mul (by rw [List.length_take]; omega) hn
    omega
  generalize hpre:aC (CI g) n a++((lA (CI g) n a).take i).flatMap (fun b=>tC (CI g) a b n)=pre at hy ⊢
  have hpl:pre.length≤27900:=by rw [←hpre,List.length_append]; omega
  refine AV (s0:=(pre.foldl step s0,(0:Nat))) (fun (s:σ×Nat) i=>(s.1,i,s.2)) 0 (lC (CI g) n a b).length (by omega) (fun j s=>s.2=0∧s.1=(pre++((lC (CI g) n a b).take j).map fun c:Nat=>((a:Int),(b:Int),(c:Int))).foldl step s0) (by omega) ⟨rfl,by simp⟩ (fun j s next3 _ hj hm hz=>?_) (fun s next3 hm=>?_)
  · obtain ⟨u1,u2⟩:=s
    obtain ⟨h1,h2⟩:=hm
    simp only at h1 h2 ⊢
    subst h1 h2
    obtain ⟨c,hc⟩:∃ c,c=(lC (CI g) n a b)[j]:=⟨_,rfl⟩
    have hcm:c∈lC (CI g) n a b:=by rw [hc]; exact List.getElem_mem hj
    unfold lC at hcm
    rw [List.mem_filter,List.mem_range] at hcm
    have ec:((lC (CI g) n a b).map fun i:Nat=>(i:Int))[j]'(by simpa using hj)=(c:Int):=by rw [List.getElem_map,hc]
    refine AZ (by simp; omega) (BI (by simpa using hj) ?_)
    rw [ec]
    refine hY _ _ (by simp only [List.length_append,List.length_map,List.length_take]; omega) (show okT n ((a:Int),(b:Int),(c:Int)) from ⟨by simp only; omega,by simp only; omega,by simp only; omega⟩) _ ?_
    refine AN rfl (hz (_,0) ⟨rfl,?_⟩)
    show step _ _=_
    rw [List.take_succ_eq_append_getElem hj,List.map_append,←List.append_assoc,List.foldl_append (l:=pre++_),←hc]
    rfl
  · obtain ⟨u1,u2⟩:=s
    obtain ⟨h1,h2⟩:=hm
    simp only at h1 h2 ⊢
    subst h1 h2
    refine AN (by simp) (hy (_,0) ⟨rfl,?_⟩)
    show List.foldl step s0 _=_
    rw [List.take_length,Ab4 hi,←List.append_assoc,hpre,←hb,AiD]
theorem aD {α:Type}:∀ (l acc:List α),l.foldl (fun s t=>s++[t]) acc=acc++l
  | [],acc=>by simp
  | x :: l,acc=>by rw [List.foldl_cons,aD l]; simp
theorem uE {Q:List T3→Prop} (h:GN g=0) (hN:g.N=n) (hn:n≤30) (hQ:Q (lM (CI g) n)):bI g Q:=by
  show AfN (List T3) 0 [] g (fun y s t Qy=>eqP y 0 (HI 24 s [t] fun _=>Qy (true,0,s++[t]))) (fun r=>eqP r.1 0 (Q r.2))
  refine zM h hN hn (fun s t=>s++[t]) [] (fun pre t hl ht Qy hq=>⟨rfl,BE ?_ hq⟩) ⟨rfl,?_⟩
  · rw [aD]; simp; omega
  · rw [aD]; exact hQ
def AdU (y:List Int) (i:Int):List Int:=y.set i.toNat (AH (ES y i+1))
def wX (y:List Int) (t:T3):List Int:=AdU (AdU (AdU y t.1) t.2.1) t.2.2
theorem AdV (y:List Int) (i:Int):(AdU y i).length=y.length:=by simp [AdU]
theorem AdW (y:List Int) (t:T3):(wX y t).length=y.length:=by simp [wX,AdV]
theorem AdX (l:List T3):∀ y:List Int,(l.foldl wX y).length=y.length:=by
  induction l with
  | nil=>intro y; rfl
  | cons t l ih=>intro y; rw [List.foldl_cons,ih,AdW]
theorem wY {y:List Int} {i:Int} {K:Int→Prop} (h0:0≤i) (h1:i<y.length) (hK:K (ES y i)):BD y i fun x=>BD y i fun _=>K x:=GB h0 h1 (GB h0 h1 hK)
def ofT (n:Nat) (l:List T3):List Int:=l.foldl wX (List.replicate n 0)
theorem Ab5 {Q:List Int→Prop} (h:GN g=0) (hN:g.N=n) (hn:n≤30) (hQ:Q (ofT n (lM (CI g) n))):iR g Q:=by
  unfold iR UI
  refine NK ?_
  rw [h,hN]
  refine AN (by simp) ⟨by omega,by omega,?_⟩
  have hr:List.replicate ((n:Int)).toNat (0:Int)=List.replicate n 0:=by simp
  rw [hr]
  suffices key:AfN (List Int) 0 (List.replicate n 0) g (fun (y120:Nat) (y121:List Int) (x127:T3) (Qy:(Bool×Nat×(List Int))→Prop)=>eqP y120 0 (BD y121 x127.1 fun x131=>BD y121 x127.1 fun x136=>BD (y121.set x127.1.toNat (AH (x131+1))) x127.2.1 fun x139=>BD (y121.set x127.1.toNat (AH (x131+1))) x127.2.1 fun x142=>BD ((y121.set x127.1.toNat (AH (x131+1))).set x127.2.1.toNat (AH (x139+1))) x127.2.2 fun x145=>BD ((y121.set x127.1.toNat (AH (x131+1))).set x127.2.1.toNat (AH (x139+1))) x127.2.2 fun x148=>Qy (true,0,(((y121.set x127.1.toNat (AH (x131+1))).set x127.2.1.toNat (AH (x139+1))).set x127.2.2.toNat (AH (x145+1)))))) (fun r=>eqP r.1 0 (Q r.2)) from key
  refine zM h hN hn wX (List.replicate n 0) (fun pre t hl ht Qy hq=>⟨rfl,?_⟩) ⟨rfl,hQ⟩
  have hlen:(pre.foldl wX (List.replicate n 0)).length=n:=by rw [AdX]; simp
  generalize pre.foldl wX (List.replicate n 0)=y at hlen hq
  obtain ⟨⟨a0,a1⟩,⟨b0,b1⟩,c0,c1⟩:=ht
  refine wY a0 (by omega) (wY b0 (by simp; omega) (wY c0 (by simp; omega) ?_))
  exact hq
theorem Ab6 {l:List Int} {Q:Bool→Prop} (hl:l.length≤1000000) (hQ:Q true):NB l l Q:=by
  unfold NB
  refine AN (by simp) (DL l.length (by omega) (fun _=>True) trivial (fun i next hi _ hn=>AZ (by simp; omega) (BI hi (BI hi (AN (by simp) (hn trivial))))) fun next _=>AN (by simp) hQ)
theorem AfO {l:List T3} {Q:Bool→Prop} (hl:l.length≤1000000) (hQ:Q true):W6 l l Q:=by
  unfold W6
  refine AN (by simp) (DL l.length (by omega) (fun _=>True) trivial (fun i next hi _ hn=>AZ (by simp; omega) (BI hi (BI hi (AN (by simp) (hn trivial))))) fun next _=>AN (by simp) hQ)
end Go.Proofs.YtbohadngdkjljaaGreat
